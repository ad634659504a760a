/-
  Maps.
-/
import Derived.Test.YtmebfcdgbjkcfaaGreatDoorAeAlloc
namespace Go.AE

section
variable {Y : Sy} {E : Env} {ρ : Rho} {h : H} {w : World}

theorem bytesV_inj {a b : List Nat} (ha : okBytes a = true) (hb : okBytes b = true) (h : bytesV a = bytesV b) : eqStr a b = true := by
  rw [eqStr_bytes ha hb, h]
  simp

theorem beqBytes_iff (a b : ByteArray) : (a == b) = true ↔ a = b := by
  rw [beq_toListBytes, beq_iff_eq, ByteArray.toList_eq, ByteArray.toList_eq]
  constructor
  · intro h
    obtain ⟨a⟩ := a
    obtain ⟨b⟩ := b
    congr 1
    exact Array.ext' h
  · intro h; rw [h]

/-- two values of a basic type are told apart as the model's are -/
theorem eqKd_iff {k : Nat} {x y : AV} {cx cy : Value} {b : Bool} (h : eqKd k x y = some b) (hx : conc Y ρ x = some cx) (hy : conc Y ρ y = some cy) : (b = true ↔ cx = cy) ∧ Instr.sameBits 0 cx cx = true ∧ ∀ n, Instr.sameBits n cx cx = true := by
  have sb : ∀ c : Value, (∃ b, c = .bool b) ∨ (∃ k n, c = .int k n) ∨ (∃ s, c = .string s) → Instr.sameBits 0 c c = true ∧ ∀ n, Instr.sameBits n c c = true := by
    rintro c (⟨b, rfl⟩ | ⟨k, n, rfl⟩ | ⟨s, rfl⟩)
    · exact ⟨by simp [Instr.sameBits], fun n => by simp [Instr.sameBits]⟩
    · exact ⟨by simp [Instr.sameBits], fun n => by simp [Instr.sameBits]⟩
    · exact ⟨by simp [Instr.sameBits, (beqBytes_iff s s).2 rfl], fun n => by simp [Instr.sameBits, (beqBytes_iff s s).2 rfl]⟩
  unfold eqKd at h
  split at h
  · unfold eqBool at h
    split at h
    · cases h; cases hx; cases hy; exact ⟨by rw [eqB_eq]; simp, sb _ (.inl ⟨_, rfl⟩)⟩
    · cases h
  · unfold eqInt at h
    split at h
    · cases h; cases hx; cases hy; exact ⟨by rw [eqI_eq]; simp, sb _ (.inr (.inl ⟨_, _, rfl⟩))⟩
    · split at h
      · rename_i hkk
        have := eqKind_eq hkk
        subst this
        cases h; cases hx; cases hy; exact ⟨by rw [eqI_eq]; simp, sb _ (.inr (.inl ⟨_, _, rfl⟩))⟩
      · cases h
    · obtain ⟨k, m, n, rfl, rfl, rfl⟩ := eqSyms_ok h hx hy
      exact ⟨by simp, sb _ (.inr (.inl ⟨_, _, rfl⟩))⟩
  · obtain ⟨s, u, rfl, rfl, rfl⟩ := eqText_ok h hx hy
    refine ⟨?_, sb _ (.inr (.inr ⟨_, rfl⟩))⟩
    rw [beq_iff_eq, ByteArray.toList_eq, ByteArray.toList_eq]
    constructor
    · intro h
      obtain ⟨s⟩ := s
      obtain ⟨u⟩ := u
      congr 2
      exact Array.ext' h
    · intro h
      cases h
      rfl
  · cases h

theorem eqCells_iff : ∀ {ks : List Nat} {x y : List AV} {cx cy : List Value} {b : Bool}, eqCells ks x y = some b → concs Y ρ x = some cx → concs Y ρ y = some cy → (b = true ↔ cx = cy) := by
  intro ks
  induction ks with
  | nil =>
    intro x y cx cy b h hx hy
    cases x with
    | nil =>
      cases y with
      | nil => cases h; rw [concs_nil] at hx hy; subst hx; subst hy; simp
      | cons _ _ => simp [eqCells] at h
    | cons _ _ => simp [eqCells] at h
  | cons k ks ih =>
    intro x y cx cy b h hx hy
    cases x with
    | nil => simp [eqCells] at h
    | cons a x =>
      cases y with
      | nil => simp [eqCells] at h
      | cons c y =>
        obtain ⟨ca, cr, h1, h2, rfl⟩ := concs_cons.1 hx
        obtain ⟨cc, cs, h3, h4, rfl⟩ := concs_cons.1 hy
        simp only [eqCells] at h
        cases hk : eqKd k a c with
        | none => rw [hk] at h; cases h
        | some r =>
          rw [hk] at h
          have hi := (eqKd_iff hk h1 h3).1
          cases r with
          | false =>
            cases h
            constructor
            · intro h; cases h
            · intro h
              have : ca = cc := (List.cons.inj h).1
              have := hi.2 this
              cases this
          | true =>
            have e := hi.1 rfl
            have := ih h h2 h4
            rw [this, e]
            simp

theorem eqCells_same : ∀ {ks : List Nat} {x : List AV} {cx : List Value}, eqCells ks x x = some true → concs Y ρ x = some cx → ∀ n, ∀ c ∈ cx, Instr.sameBits n c c = true := by
  intro ks
  induction ks with
  | nil =>
    intro x cx h hx n c hc
    cases x with
    | nil => rw [concs_nil] at hx; subst hx; cases hc
    | cons _ _ => simp [eqCells] at h
  | cons k ks ih =>
    intro x cx h hx n c hc
    cases x with
    | nil => simp [eqCells] at h
    | cons a x =>
      obtain ⟨ca, cr, h1, h2, rfl⟩ := concs_cons.1 hx
      simp only [eqCells] at h
      cases hk : eqKd k a a with
      | none => rw [hk] at h; cases h
      | some r =>
        rw [hk] at h
        cases r with
        | false => cases h
        | true =>
          rcases List.mem_cons.1 hc with rfl | hc
          · exact (eqKd_iff hk h1 h1).2.2 n
          · exact ih h h2 n c hc

/-- what a way of telling keys apart is worth -/
structure KeyLaw (Y : Sy) (E : Env) (t : TypeId) (eq : AV → AV → Option Bool) : Prop where
  equal : ∀ {ρ : Rho} {w : World} {x y : AV} {cx cy : Value} {b : Bool}, eq x y = some b → conc Y ρ x = some cx → conc Y ρ y = some cy → (Op.equal t cx cy).run E.P w = .ok b w
  iff : ∀ {ρ : Rho} {x y : AV} {cx cy : Value} {b : Bool}, eq x y = some b → conc Y ρ x = some cx → conc Y ρ y = some cy → (b = true ↔ cx = cy)
  check : ∀ {ρ : Rho} {w : World} {x : AV} {cx : Value}, eq x x = some true → conc Y ρ x = some cx → ∀ em, (Instr.checkKey em 10000 t cx).run E.P w = .ok () w
  same : ∀ {ρ : Rho} {x : AV} {cx : Value}, eq x x = some true → conc Y ρ x = some cx → Instr.sameBits 10000 cx cx = true

theorem checkFields_flat {P : Program} {d n : Nat} (em : Bool)
    (ih : ∀ (t : TypeId) (ks : List Nat), flatAt P d t = some ks → ∀ (cs : List Value), cs.length = ks.length → ∀ w, (Instr.checkKey em n t (packV P t cs)).run P w = .ok () w)
    (cX : List Value) : ∀ (fs : List Field) (off : Nat) (l : List Nat) (w : World), flatFields P (flatAt P d) fs off = some l → off + l.length ≤ cX.length →
      (forIn fs PUnit.unit fun f (_ : PUnit) => do
        if f.name ≠ "_" then Instr.checkKey em n f.type (← part f.type cX.toArray f.offset)
        pure (ForInStep.yield PUnit.unit) : Sem PUnit).run P w = .ok PUnit.unit w := by
  intro fs
  induction fs with
  | nil => intro off l w _ _; simp
  | cons f r ihr =>
    intro off l w hf hle
    simp only [flatFields] at hf
    split at hf
    · cases hf
    · rename_i hnb
      simp only [not_or, Decidable.not_not] at hnb
      obtain ⟨hname, hoff⟩ := hnb
      split at hf
      · rename_i ks l' h1 h2
        split at hf
        · rename_i hcond
          obtain ⟨hcells, hinfo⟩ := hcond
          cases hf
          rw [List.length_append] at hle
          have hstr : ks = [] → ∃ fs, P.underlying f.type = some (.struct fs) := by
            intro hk
            subst hk
            cases d with
            | zero => cases h1
            | succ d =>
              simp only [flatAt] at h1
              split at h1 <;> first | (cases h1; done) | skip
              rename_i fs hu
              exact ⟨fs, hu⟩
          have p1 := part_pack (w := w) h1 hcells hinfo (cs := cX) (off := off) (by
            by_cases hk : ks = []
            · exact .inr (hstr hk)
            · have : 0 < ks.length := List.length_pos_iff.2 hk
              exact .inl (by omega))
          have h3 := ih f.type ks h1 ((cX.drop off).take ks.length) (by simp; omega) w
          have h4 := ihr (off + ks.length) l' w (by rw [← hcells]; exact h2) (by omega)
          simp only [List.forIn_cons, hname, ne_eq, not_false_eq_true, if_true, hoff, Sem.run_bind, p1, h3, Result.andThen_ok, Sem.run_pure]
          simpa using h4
        · cases hf
      · cases hf

theorem checkKey_flat {P : Program} (em : Bool) : ∀ (d n : Nat), d ≤ n → ∀ (t : TypeId) (ks : List Nat), flatAt P d t = some ks → ∀ (cs : List Value), cs.length = ks.length → ∀ w, (Instr.checkKey em n t (packV P t cs)).run P w = .ok () w := by
  intro d
  induction d with
  | zero => intro n _ t ks h; cases h
  | succ d ih =>
    intro n hn t ks hf cs hl w
    obtain ⟨n, rfl⟩ : ∃ m, n = m + 1 := ⟨n - 1, by omega⟩
    simp only [flatAt] at hf
    split at hf
    · rename_i hu; rw [Instr.checkKey]; simp only [Sem.run_bind, run_underlying hu, Result.andThen_ok]; rfl
    · rename_i k hu; rw [Instr.checkKey]; simp only [Sem.run_bind, run_underlying hu, Result.andThen_ok]; rfl
    · rename_i hu; rw [Instr.checkKey]; simp only [Sem.run_bind, run_underlying hu, Result.andThen_ok]; rfl
    · rename_i fs hu
      split at hf
      · cases hf
      · have e1 : packV P t cs = .agg cs.toArray := by unfold packV; rw [hu]
        rw [e1, Instr.checkKey]
        simp only [Sem.run_bind, run_underlying hu, Result.andThen_ok]
        have := checkFields_flat em (fun t ks h cs hl w => ih n (by omega) t ks h cs hl w) cs fs.toList 0 ks w hf (by omega)
        rw [← Array.forIn_toList]
        have e2 : (forIn fs.toList PUnit.unit fun f (_ : PUnit) => if f.name ≠ "_" then (do
              let x ← part f.type cs.toArray f.offset
              Instr.checkKey em n f.type x
              pure (ForInStep.yield PUnit.unit)) else pure (ForInStep.yield PUnit.unit) : Sem PUnit).run P w = .ok PUnit.unit w := by
          refine Eq.trans ?_ this
          congr 2
        rw [e2]
        rfl
    · cases hf

theorem keyLaw (hE : EnvOk Y E) {t : TypeId} {eq : AV → AV → Option Bool} (hk : keyEq E t = some eq) : KeyLaw Y E t eq := by
  unfold keyEq at hk
  split at hk
  · rename_i fs hd
    split at hk
    · rename_i ks hks
      cases hk
      obtain ⟨hfl, hgt⟩ := hE.eqs t ks hks
      have hu := und_ok hE hd
      have sp : ∀ {x y : AV} {b : Bool}, (match x, y with | .agg a, .agg b => eqCells ks a b | _, _ => none) = some b → ∃ a c, x = .agg a ∧ y = .agg c ∧ eqCells ks a c = some b := by
        intro x y b h
        split at h
        · exact ⟨_, _, rfl, rfl, h⟩
        · cases h
      refine ⟨fun {ρ w x y cx cy b} h hx hy => ?_, fun {ρ x y cx cy b} h hx hy => ?_, fun {ρ w x cx} h hx em => ?_, fun {ρ x cx} h hx => ?_⟩
      · obtain ⟨a, c, rfl, rfl, h0⟩ := sp h
        refine eqA_ok hE ?_ hx hy
        unfold eqA
        rw [hd]
        dsimp only
        rw [hks]
        show eqCellsO E ks a c = some b
        unfold eqCellsO
        rw [h0]
      · obtain ⟨a, c, rfl, rfl, h⟩ := sp h
        obtain ⟨ca, h1, rfl, _⟩ := conc_agg hx
        obtain ⟨cc, h2, rfl, _⟩ := conc_agg hy
        rw [eqCells_iff h h1 h2]
        simp
      · obtain ⟨a, c, rfl, e, h⟩ := sp h
        cases e
        obtain ⟨ca, h1, rfl, _⟩ := conc_agg hx
        have := checkKey_flat (P := E.P) em 20 10000 (by omega) t ks hfl ca (by rw [concs_length h1]; exact (eqCells_lengths h).1) w
        rw [flat_struct hu] at this
        exact this
      · obtain ⟨a, c, rfl, e, h⟩ := sp h
        cases e
        obtain ⟨ca, h1, rfl, _⟩ := conc_agg hx
        have h2 := eqCells_same h h1 9999
        show Instr.sameBits (9999 + 1) (.agg ca.toArray) (.agg ca.toArray) = true
        simp only [Instr.sameBits, beq_self_eq_true, Bool.true_and, List.all_eq_true]
        intro p hp
        obtain ⟨i, hi, e⟩ := List.getElem_of_mem hp
        rw [List.getElem_zip] at e
        rw [← e]
        exact h2 _ (List.getElem_mem _)
    · cases hk
  · rename_i d hns hd
    split at hk
    · rename_i k hkd
      cases hk
      have hu := und_ok hE hd
      have hdesc := kdOf_desc hkd
      refine ⟨fun {ρ w x y cx cy b} h hx hy => ?_, fun {ρ x y cx cy b} h hx hy => (eqKd_iff h hx hy).1, fun {ρ w x cx} h hx em => ?_, fun {ρ x cx} h hx => (eqKd_iff h hx hx).2.2 _⟩
      · unfold Op.equal
        obtain ⟨n, e0⟩ : ∃ n, Op.maxDepth = n + 1 := ⟨9999, rfl⟩
        rw [e0]
        exact eqKd_ok h hx hy hu hdesc n w
      · show (Instr.checkKey em (9999 + 1) t cx).run E.P w = .ok () w
        rw [Instr.checkKey]
        simp only [Sem.run_bind, run_underlying hu, Result.andThen_ok]
        unfold kdOf at hkd
        split at hkd <;> first | (cases hkd; done) | rfl
    · cases hk
  · cases hk

theorem sameNow_iff {d : TypeDesc} {a b : Value} {r : Bool} (h : Instr.sameNow d a b = some r) : r = true ↔ a = b := by
  unfold Instr.sameNow at h
  split at h
  · split at h
    · rename_i hk; subst hk; cases h; simp
    · cases h
  · cases h; rw [beqBytes_iff]; simp
  · cases h; simp
  · cases h

/-- where the entry lies -/
theorem findAsking_ok {t : TypeId} {eq : AV → AV → Option Bool} (hk : KeyLaw Y E t eq) {k : AV} {ck : Value} (hc : conc Y ρ k = some ck) : ∀ (es : List AEnt) (l : List MapEntry) (i : Nat) (r : Option AV), EntRel Y ρ es l → findEnt eq k es = some r →
    ∃ cr, (Instr.findAsking t ck l i).run E.P w = .ok cr w ∧ (match r with
      | none => cr = none
      | some v => ∃ j e cv, cr = some (i + j, cv) ∧ conc Y ρ v = some cv ∧ l[j]? = some e ∧ e.key = ck ∧ e.val = cv) := by
  intro es
  induction es with
  | nil =>
    intro l i r hr hf
    cases l with
    | nil => cases hf; exact ⟨none, rfl, rfl⟩
    | cons _ _ => exact hr.elim
  | cons a es ih =>
    intro l i r hr hf
    cases l with
    | nil => exact hr.elim
    | cons e l =>
      obtain ⟨h1, h2, h3, h4⟩ := hr
      simp only [findEnt] at hf
      cases hq : eq k a.key with
      | none => rw [hq] at hf; cases hf
      | some b =>
        rw [hq] at hf
        have hrun := hk.equal (w := w) hq hc h1
        have hif := hk.iff hq hc h1
        cases b with
        | true =>
          cases hf
          exact ⟨some (i, e.val), by simp [Instr.findAsking, hrun], 0, e, e.val, rfl, h2, rfl, (hif.1 rfl).symm, rfl⟩
        | false =>
          obtain ⟨cr, k1, k2⟩ := ih l (i + 1) r h4 hf
          refine ⟨cr, by simp [Instr.findAsking, hrun, k1], ?_⟩
          cases r with
          | none => exact k2
          | some v =>
            obtain ⟨j, e', cv, g1, g2, g3, g4, g5⟩ := k2
            exact ⟨j + 1, e', cv, by rw [g1]; congr 2; omega, g2, by simpa using g3, g4, g5⟩

theorem findNow_ok {t : TypeId} {d : TypeDesc} {eq : AV → AV → Option Bool} (hk : KeyLaw Y E t eq) {k : AV} {ck : Value} (hc : conc Y ρ k = some ck) : ∀ (es : List AEnt) (l : List MapEntry) (i : Nat) (r : Option AV) (q : Option (Nat × Value)), EntRel Y ρ es l → findEnt eq k es = some r →
    Instr.findNow d ck l i = some q → (match r with
      | none => q = none
      | some v => ∃ j e cv, q = some (i + j, cv) ∧ conc Y ρ v = some cv ∧ l[j]? = some e ∧ e.key = ck ∧ e.val = cv) := by
  intro es
  induction es with
  | nil =>
    intro l i r q hr hf hq
    cases l with
    | nil => cases hf; cases hq; rfl
    | cons _ _ => exact hr.elim
  | cons a es ih =>
    intro l i r q hr hf hn
    cases l with
    | nil => exact hr.elim
    | cons e l =>
      obtain ⟨h1, h2, h3, h4⟩ := hr
      simp only [findEnt] at hf
      simp only [Instr.findNow] at hn
      cases hq : eq k a.key with
      | none => rw [hq] at hf; cases hf
      | some b =>
        rw [hq] at hf
        have hif := hk.iff hq hc h1
        cases hs : Instr.sameNow d ck e.key with
        | none => rw [hs] at hn; cases hn
        | some b' =>
          have hif' := sameNow_iff hs
          have hbb : b' = b := by
            cases b <;> cases b' <;> simp_all
          subst hbb
          rw [hs] at hn
          cases b' with
          | true =>
            cases hf
            cases hn
            exact ⟨0, e, e.val, rfl, h2, rfl, (hif.1 rfl).symm, rfl⟩
          | false =>
            have k2 := ih l (i + 1) r q h4 hf hn
            cases r with
            | none => exact k2
            | some v =>
              obtain ⟨j, e', cv, g1, g2, g3, g4, g5⟩ := k2
              exact ⟨j + 1, e', cv, by rw [g1]; congr 2; omega, g2, by simpa using g3, g4, g5⟩

theorem findKey_ok {t : TypeId} {d : TypeDesc} (hu : (underlying t).run E.P w = .ok d w) {eq : AV → AV → Option Bool} (hk : KeyLaw Y E t eq) {k : AV} {ck : Value} (hc : conc Y ρ k = some ck) (es : List AEnt) (l : List MapEntry) (r : Option AV) (hr : EntRel Y ρ es l) (hf : findEnt eq k es = some r) :
    ∃ cr, (Instr.findKey t ck l).run E.P w = .ok cr w ∧ (match r with
      | none => cr = none
      | some v => ∃ j e cv, cr = some (j, cv) ∧ conc Y ρ v = some cv ∧ l[j]? = some e ∧ e.key = ck ∧ e.val = cv) := by
  simp only [Instr.findKey, Sem.run_bind, hu, Result.andThen_ok]
  cases hn : Instr.findNow d ck l 0 with
  | some q =>
    refine ⟨q, by simp, ?_⟩
    have := findNow_ok hk hc es l 0 r q hr hf hn
    cases r with
    | none => exact this
    | some v => simpa using this
  | none =>
    obtain ⟨cr, h1, h2⟩ := findAsking_ok (w := w) hk hc es l 0 r hr hf
    refine ⟨cr, h1, ?_⟩
    cases r with
    | none => exact h2
    | some v => simpa using h2

theorem keyEq_und {t : TypeId} {eq : AV → AV → Option Bool} (hk : keyEq E t = some eq) : ∃ d, E.und t = some d := by
  unfold keyEq at hk
  split at hk
  · rename_i fs hd; exact ⟨_, hd⟩
  · rename_i d _ hd; exact ⟨d, hd⟩
  · cases hk

theorem goodKey_eq {eq : AV → AV → Option Bool} {k : AV} (h : goodKey eq k = true) : eq k k = some true := by
  unfold goodKey at h
  split at h
  · assumption
  · cases h

theorem found_ok (hE : EnvOk Y E) {et : TypeId} {ok : Bool} {r : Option AV} {v : AV} (h : foundA E et ok r = some v) :
    match r with
    | some x => ∀ cx, conc Y ρ x = some cx → conc Y ρ v = some (if ok then .tuple #[cx, .bool true] else cx)
    | none => ∃ cz, (zeroValue et).run E.P w = .ok cz w ∧ conc Y ρ v = some (if ok then .tuple #[cz, .bool false] else cz) := by
  unfold foundA at h
  cases r with
  | some x =>
    intro cx hx
    dsimp only at h
    cases ok with
    | true => cases h; simp [conc, concs, hx]
    | false => cases h; simpa using hx
  | none =>
    dsimp only at h
    cases hz : E.zero et with
    | none => rw [hz] at h; cases h
    | some z =>
      rw [hz] at h
      obtain ⟨cz, k1, k2⟩ := run_zero (Y := Y) (ρ := ρ) (w := w) hE hz
      refine ⟨cz, k1, ?_⟩
      cases ok with
      | true => cases h; simp [conc, concs, k2]
      | false => cases h; simpa using k2

theorem lookupK_ok (hE : EnvOk Y E) (hr : Rel Y E ρ h w) {t : TypeId} {m k v : AV} {cm ck : Value} {ok : Bool} (hl : lookupK E h t m k ok = some v) (hm : conc Y ρ m = some cm) (hc : conc Y ρ k = some ck) : Yields Y E ρ w (Instr.lookup t cm ck ok) v := by
  unfold lookupK at hl
  split at hl
  · rename_i kt et hu
    split at hl
    · cases hl
    · rename_i eq hk
      split at hl
      · cases hl
      · rename_i hg
        have hlaw := keyLaw (Y := Y) hE hk
        have hgood := goodKey_eq hg
        obtain ⟨d, hd⟩ := keyEq_und hk
        split at hl
        · cases hm
          obtain ⟨cz, k1, k2⟩ := found_ok (Y := Y) (ρ := ρ) (w := w) hE hl
          obtain ⟨cr, f1, f2⟩ := findKey_ok (run_und (w := w) hE hd) hlaw hc [] [] none trivial rfl
          cases f2
          refine ⟨_, ?_, k2⟩
          simp only [Instr.lookup, Sem.run_bind, run_und hE hu, Result.andThen_ok, Sem.run_pure, hlaw.check hgood hc, f1, k1]
        · rename_i b
          split at hl
          · rename_i es clock hb
            split at hl
            · rename_i r hf
              obtain ⟨L, l, h1, h2, h3⟩ := hr.mapAt hb
              obtain ⟨L', hL', rfl⟩ := conc_map hm
              rw [h1] at hL'
              cases hL'
              have hgo : (getObj L.blk).run E.P w = .ok (.map l clock) w := by simp [getObj, Sem.run, h2]
              obtain ⟨cr, f1, f2⟩ := findKey_ok (run_und (w := w) hE hd) hlaw hc es l.toList r h3 hf
              cases r with
              | none =>
                cases f2
                obtain ⟨cz, k1, k2⟩ := found_ok (Y := Y) (ρ := ρ) (w := w) hE hl
                refine ⟨_, ?_, k2⟩
                simp only [Instr.lookup, Sem.run_bind, run_und hE hu, hgo, Result.andThen_ok, Sem.run_pure, hlaw.check hgood hc, f1, k1]
              | some x =>
                obtain ⟨j, e, cv, rfl, g2, g3, g4, g5⟩ := f2
                have k2 := found_ok (Y := Y) (ρ := ρ) (w := w) hE hl cv g2
                refine ⟨_, ?_, k2⟩
                simp only [Instr.lookup, Sem.run_bind, run_und hE hu, hgo, Result.andThen_ok, Sem.run_pure, hlaw.check hgood hc, f1]
            · cases hl
          · cases hl
        · cases hl
  · cases hl

theorem findEnt_int {n : Int} : ∀ {es : List AEnt} {ks vs : List Int}, intEnts es = some (ks, vs) → findEnt (eqKd 1) (.i64 n) es = some (if inV n ks = true then some (.i64 (lookV n ks vs)) else none)
  | [], ks, vs, h => by
    cases h
    rfl
  | e :: r, ks, vs, h => by
    simp only [intEnts] at h
    split at h
    · rename_i k v ks' vs' h1 h2 h3
      cases h
      have e1 : eqKd 1 (.i64 n) e.key = some (eqI n k) := by rw [h1]; rfl
      simp only [findEnt, e1, eqI_eq]
      by_cases hn : n = k
      · subst hn
        simp [inV, lookV, h2]
      · have : (n == k) = false := by simp [hn]
        simp only [this, inV, lookV, if_neg hn]
        exact findEnt_int h3
    · cases h

theorem zeroI_eq {z : Option AV} (h : zeroI z = true) : z = some (.i64 0) := by
  unfold zeroI at h
  split at h
  · rw [eqI_eq] at h
    rw [of_decide_eq_true h]
  · cases h

theorem lookupS_ok (hE : EnvOk Y E) (hr : Rel Y E ρ h w) {t : TypeId} {m k v : AV} {cm ck : Value} {ok : Bool} (hl : lookupS E h t m k ok = some v) (hm : conc Y ρ m = some cm) (hc : conc Y ρ k = some ck) : Yields Y E ρ w (Instr.lookup t cm ck ok) v := by
  unfold lookupS at hl
  split at hl
  · rename_i e lo hi b
    split at hl
    · rename_i kt et hu
      split at hl
      · rename_i es clock hkt hz hb
        split at hl
        · rename_i ks vs hi
          cases hl
          simp only [conc] at hc
          split at hc
          · cases hc
            have key : lookupK E h t (.map b) (.i64 (e.val Y)) true = some (.tuple [.i64 (lookV (e.val Y) ks vs), .bool (inV (e.val Y) ks)]) := by
              have e1 : keyEq E kt = some (eqKd 1) := by unfold keyEq; rw [hkt]; rfl
              have e2 : goodKey (eqKd 1) (.i64 (e.val Y)) = true := by
                have : eqKd 1 (.i64 (e.val Y)) (.i64 (e.val Y)) = some (eqI (e.val Y) (e.val Y)) := rfl
                unfold goodKey
                rw [this, eqI_eq]
                simp
              unfold lookupK
              rw [hu]
              simp only [e1, e2, hb, findEnt_int hi]
              cases hin : inV (e.val Y) ks with
              | true => rfl
              | false =>
                have ez := zeroI_eq hz
                have el : ∀ (l m : List Int), inV (e.val Y) l = false → lookV (e.val Y) l m = 0 := by
                  intro l
                  induction l with
                  | nil => intro m _; cases m <;> rfl
                  | cons a l ih =>
                    intro m h
                    simp only [inV] at h
                    split at h
                    · cases h
                    · rename_i hne
                      cases m with
                      | nil => rfl
                      | cons x m => simp only [lookV, if_neg hne]; exact ih m h
                simp only [foundA, ez, Bool.false_eq_true, if_false, el ks vs hin]
            obtain ⟨cv, k1, k2⟩ := lookupK_ok (w := w) hE hr key hm (show conc Y ρ (.i64 (e.val Y)) = some (.int .i64 (e.val Y)) from rfl)
            refine ⟨cv, k1, ?_⟩
            cases k2
            rfl
          · cases hc
        · cases hl
      · cases hl
    · cases hl
  · cases hl

theorem lookup_ok (hE : EnvOk Y E) (hr : Rel Y E ρ h w) {t : TypeId} {m k v : AV} {cm ck : Value} {ok : Bool} (hl : lookupA E h t m k ok = some v) (hm : conc Y ρ m = some cm) (hc : conc Y ρ k = some ck) : Yields Y E ρ w (Instr.lookup t cm ck ok) v := by
  unfold lookupA at hl
  split at hl
  · rename_i u hu
    cases hl
    exact lookupK_ok hE hr hu hm hc
  · exact lookupS_ok hE hr hl hm hc

end
end Go.AE
