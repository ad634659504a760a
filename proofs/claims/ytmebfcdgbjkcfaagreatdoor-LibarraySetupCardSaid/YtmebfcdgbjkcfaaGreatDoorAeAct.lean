/-
  What changes the heap: stores, maps, ranges.
-/
import Derived.Test.YtmebfcdgbjkcfaaGreatDoorAeMap
namespace Go.AE

section
variable {Y : Sy} {E : Env} {ρ : Rho} {h : H} {w : World}

/-- a value, and a step of the heap -/
def Acts (Y : Sy) (E : Env) (ρ : Rho) (h : H) (w : World) (s : Sem Value) (v : AV) (h' : H) : Prop :=
  ∃ cv w' ρ', s.run E.P w = .ok cv w' ∧ Goes Y E ρ h w ρ' h' w' ∧ conc Y ρ' v = some cv

theorem store_ok (hE : EnvOk Y E) (hr : Rel Y E ρ h w) {t : TypeId} {a v : AV} {ca cv : Value} {h' : H} (hs : storeP E t a v h = some h') (ha : conc Y ρ a = some ca) (hv : conc Y ρ v = some cv) :
    ∃ w', (Instr.storeAt t ca cv).run E.P w = .ok () w' ∧ Goes Y E ρ h w ρ h' w' := by
  unfold storeP at hs
  cases hn : E.size t with
  | none => rw [hn] at hs; cases hs
  | some n =>
    rw [hn] at hs
    dsimp only at hs
    cases hp : asP a with
    | none => rw [hp] at hs; cases hs
    | some p =>
      rw [hp] at hs
      dsimp only at hs
      cases hc : cellsOf v with
      | none => rw [hc] at hs; cases hs
      | some vs =>
        rw [hc] at hs
        dsimp only at hs
        cases hl : Nat.beq vs.length n with
        | false => rw [hl] at hs; cases hs
        | true =>
          rw [hl] at hs
          dsimp only at hs
          have hl' := Nat.eq_of_beq_eq_true hl
          rw [asP_eq hp] at ha
          obtain ⟨L, hL, rfl⟩ := conc_ptr ha
          obtain ⟨cs, k1, k2, k3⟩ := cellsOf_conc hc hv
          obtain ⟨L', w', e1, e2, e3, _⟩ := storeCells_sound (P := E.P) hr hs k1 k3
          rw [hL] at e1
          cases e1
          refine ⟨w', ?_, e3⟩
          have hsz : ¬ (cv.cells.size ≠ n) := by rw [k2]; simp [concs_length k1, hl']
          simp only [Instr.storeAt, Instr.sureAddr, storeVar, Sem.run_bind, Sem.run_pure, Result.andThen_ok, run_size hE hn, Sem.run_ite, hsz, if_false]
          rw [k2]
          exact e2

/-! ### Blocks that are no rows -/
theorem run_getObj' {P : Program} {r : Nat} {o : Obj} (h : w.heap[r]? = some o) (hn : ∀ c e f, o ≠ .cells c e f) : (getObj r).run P w = .ok o w := by
  cases o <;> first | exact absurd rfl (hn _ _ _) | simp [getObj, Sem.run, h]

def putW (w : World) (r : Nat) (o : Obj) : World := { w with heap := w.heap.setIfInBounds r o }

theorem run_setObj' {P : Program} {r : Nat} {o o' : Obj} (h : w.heap[r]? = some o) (hn : ∀ c e f, o ≠ .cells c e f) : (setObj r o').run P w = .ok () (putW w r o') := by
  cases o <;> first | exact absurd rfl (hn _ _ _) | simp [setObj, Sem.run, h, putW]

/-- a block that is no row is set -/
theorem Goes.put {b : Nat} {o o₀ : AObj} {L : Loc} {ob : Obj} {h' : H} (hr : Rel Y E ρ h w) (hb : h.get b = some o₀) (ha₀ : o₀.alive = true) (hL : ρ b = some L) (hu : h.upd b o = some h') (ho : ORel Y E ρ L o ob) :
    Goes Y E ρ h w ρ h' (putW w L.blk ob) := by
  have hlt := hr.bound b L hL
  exact Goes.upd hr hb ha₀ hL hu rfl rfl rfl (by simp [putW]) (by simp [putW, hlt]) (fun c hc => by simp [putW, Ne.symm hc]) ho

theorem EntRel.append : ∀ {es : List AEnt} {l : List MapEntry} {es' : List AEnt} {l' : List MapEntry}, EntRel Y ρ es l → EntRel Y ρ es' l' → EntRel Y ρ (es ++ es') (l ++ l')
  | [], [], _, _, _, h' => h'
  | _ :: _, _ :: _, _, _, ⟨h1, h2, h3, h4⟩, h' => ⟨h1, h2, h3, h4.append h'⟩
  | [], _ :: _, _, _, h, _ => h.elim
  | _ :: _, [], _, _, h, _ => h.elim

/-- the first entry with this key -/
def firstAt (ck : Value) (l : List MapEntry) (j : Nat) : Prop := ∃ e, l[j]? = some e ∧ e.key = ck ∧ ∀ i e', i < j → l[i]? = some e' → e'.key ≠ ck

theorem findAsking_first {t : TypeId} {eq : AV → AV → Option Bool} (hk : KeyLaw Y E t eq) {k : AV} {ck : Value} (hc : conc Y ρ k = some ck) : ∀ (es : List AEnt) (l : List MapEntry) (i : Nat) (v : AV), EntRel Y ρ es l → findEnt eq k es = some (some v) →
    ∃ j cv, (Instr.findAsking t ck l i).run E.P w = .ok (some (i + j, cv)) w ∧ firstAt ck l j := by
  intro es
  induction es with
  | nil => intro l i v hr hf; cases hf
  | cons a es ih =>
    intro l i v hr hf
    cases l with
    | nil => exact hr.elim
    | cons e l =>
      obtain ⟨h1, h2, h3, h4⟩ := hr
      simp only [findEnt] at hf
      cases hq : eq k a.key with
      | none => rw [hq] at hf; cases hf
      | some b =>
        rw [hq] at hf
        have hrun := hk.equal (w := w) hq hc h1
        have hif := hk.iff hq hc h1
        cases b with
        | true => exact ⟨0, e.val, by simp [Instr.findAsking, hrun], e, rfl, (hif.1 rfl).symm, fun i e' hi => absurd hi (Nat.not_lt_zero _)⟩
        | false =>
          obtain ⟨j, cv, k1, e', k2, k3, k4⟩ := ih l (i + 1) v h4 hf
          refine ⟨j + 1, cv, by simp [Instr.findAsking, hrun, k1]; omega, e', by simpa using k2, k3, fun m e'' hm he => ?_⟩
          cases m with
          | zero =>
            simp at he
            subst he
            intro he
            have := hif.2 he.symm
            cases this
          | succ m => exact k4 m e'' (by omega) (by simpa using he)

theorem findNow_first {d : TypeDesc} {ck : Value} : ∀ (l : List MapEntry) (i : Nat) (q : Nat × Value), Instr.findNow d ck l i = some (some q) → ∃ j, q.1 = i + j ∧ firstAt ck l j := by
  intro l
  induction l with
  | nil => intro i q h; cases h
  | cons e l ih =>
    intro i q h
    simp only [Instr.findNow] at h
    cases hs : Instr.sameNow d ck e.key with
    | none => rw [hs] at h; cases h
    | some b =>
      have hif := sameNow_iff hs
      rw [hs] at h
      cases b with
      | true => cases h; exact ⟨0, rfl, e, rfl, (hif.1 rfl).symm, fun i e' hi => absurd hi (Nat.not_lt_zero _)⟩
      | false =>
        obtain ⟨j, k1, e', k2, k3, k4⟩ := ih (i + 1) q h
        refine ⟨j + 1, by omega, e', by simpa using k2, k3, fun m e'' hm he => ?_⟩
        cases m with
        | zero =>
          simp at he
          subst he
          intro he
          have := hif.2 he.symm
          cases this
        | succ m => exact k4 m e'' (by omega) (by simpa using he)

theorem findKey_first {t : TypeId} {d : TypeDesc} (hu : (underlying t).run E.P w = .ok d w) {eq : AV → AV → Option Bool} (hk : KeyLaw Y E t eq) {k v : AV} {ck : Value} (hc : conc Y ρ k = some ck) (es : List AEnt) (l : List MapEntry) (hr : EntRel Y ρ es l) (hf : findEnt eq k es = some (some v)) :
    ∃ j cv, (Instr.findKey t ck l).run E.P w = .ok (some (j, cv)) w ∧ firstAt ck l j := by
  simp only [Instr.findKey, Sem.run_bind, hu, Result.andThen_ok]
  cases hn : Instr.findNow d ck l 0 with
  | some q =>
    have h1 := findNow_ok hk hc es l 0 (some v) q hr hf hn
    obtain ⟨j, e, cv, rfl, _⟩ := h1
    obtain ⟨j', h2, h3⟩ := findNow_first l 0 _ hn
    simp only [Nat.zero_add] at h2
    subst h2
    exact ⟨j, cv, by simp, h3⟩
  | none =>
    obtain ⟨j, cv, h1, h2⟩ := findAsking_first (w := w) hk hc es l 0 v hr hf
    exact ⟨j, cv, by simpa using h1, h2⟩

theorem setEnt_rel {t : TypeId} {eq : AV → AV → Option Bool} (hk : KeyLaw Y E t eq) {k v : AV} {ck cv : Value} (hc : conc Y ρ k = some ck) (hv : conc Y ρ v = some cv) : ∀ (es es' : List AEnt) (l : List MapEntry) (j : Nat), EntRel Y ρ es l → setEnt eq k v es = some es' → (∃ x, findEnt eq k es = some x) → firstAt ck l j →
    EntRel Y ρ es' (l.modify j fun e => { e with key := ck, val := cv }) := by
  intro es
  induction es with
  | nil => intro es' l j hr hs; cases hs
  | cons a es ih =>
    intro es' l j hr hs hf hj
    cases l with
    | nil => exact hr.elim
    | cons e l =>
      obtain ⟨h1, h2, h3, h4⟩ := hr
      obtain ⟨x, hf⟩ := hf
      simp only [setEnt] at hs
      simp only [findEnt] at hf
      cases hq : eq k a.key with
      | none => rw [hq] at hf; cases hf
      | some b =>
        rw [hq] at hf hs
        have hif := hk.iff hq hc h1
        obtain ⟨e₁, k1, k2, k3⟩ := hj
        cases b with
        | true =>
          cases hs
          have hj0 : j = 0 := by
            cases j with
            | zero => rfl
            | succ j => exact absurd (hif.1 rfl).symm (k3 0 e (by omega) rfl)
          subst hj0
          exact ⟨hc, hv, h3, h4⟩
        | false =>
          dsimp only at hs
          cases hs' : setEnt eq k v es with
          | none => rw [hs'] at hs; cases hs
          | some es₁ =>
            rw [hs'] at hs
            cases hs
            cases j with
            | zero =>
              simp at k1
              subst k1
              have := hif.2 k2.symm
              cases this
            | succ j =>
              exact ⟨h1, h2, h3, ih es₁ l j h4 hs' ⟨x, hf⟩ ⟨e₁, by simpa using k1, k2, fun i e' hi he => k3 (i + 1) e' (by omega) (by simpa using he)⟩⟩

theorem mapUpdate_ok (hE : EnvOk Y E) (hr : Rel Y E ρ h w) {t : TypeId} {m k v : AV} {cm ck cv : Value} {h' : H} (hl : mapUpdateA E h t m k v = some h') (hm : conc Y ρ m = some cm) (hc : conc Y ρ k = some ck) (hv : conc Y ρ v = some cv) :
    ∃ w', (Instr.mapUpdate t cm ck cv).run E.P w = .ok () w' ∧ Goes Y E ρ h w ρ h' w' := by
  unfold mapUpdateA at hl
  split at hl
  · rename_i kt et b hu
    split at hl
    · cases hl
    · rename_i eq hk
      split at hl
      · cases hl
      · rename_i hg
        have hlaw := keyLaw (Y := Y) hE hk
        have hgood := goodKey_eq hg
        obtain ⟨d, hd⟩ := keyEq_und hk
        split at hl
        · rename_i es clock hb
          obtain ⟨L, l, h1, h2, h3⟩ := hr.mapAt hb
          obtain ⟨L', hL', rfl⟩ := conc_map hm
          rw [h1] at hL'
          cases hL'
          have hgo : (getObj L.blk).run E.P w = .ok (.map l clock) w := run_getObj' h2 (fun _ _ _ h => by cases h)
          have hst : ∀ o', (setObj L.blk o').run E.P w = .ok () (putW w L.blk o') := fun o' => run_setObj' h2 (fun _ _ _ h => by cases h)
          split at hl
          · rename_i x hf
            split at hl
            · rename_i es' hes
              obtain ⟨j, cx, f1, f2⟩ := findKey_first (run_und (w := w) hE hd) hlaw hc es l.toList h3 hf
              have hrel := setEnt_rel hlaw hc hv es es' l.toList j h3 hes ⟨_, hf⟩ f2
              obtain ⟨e, g1, g2, _⟩ := f2
              refine ⟨putW w L.blk (.map (l.modify j fun e => { e with key := ck, val := cv }) clock), ?_, Goes.put hr hb rfl h1 hl ⟨_, rfl, by rw [Array.toList_modify]; exact hrel⟩⟩
              have hkey : ((l[j]?).map (·.key)).getD ck = ck := by
                rw [Array.getElem?_toList] at g1
                rw [g1]
                exact g2
              have hks : (Instr.keyThatStays ck ck).run E.P w = .ok ck w := by
                simp [Instr.keyThatStays, hlaw.same hgood hc]
              simp only [Instr.mapUpdate, Sem.run_bind, run_und hE hu, hgo, Result.andThen_ok, hlaw.check hgood hc, f1, hkey, hks, hst]
            · cases hl
          · rename_i hf
            simp only [forceN_eq] at hl
            obtain ⟨cr, f1, f2⟩ := findKey_ok (run_und (w := w) hE hd) hlaw hc es l.toList none h3 hf
            cases f2
            refine ⟨putW w L.blk (.map (l.push { key := ck, val := cv, born := clock }) (clock + 1)), ?_, Goes.put hr hb rfl h1 hl ⟨_, rfl, by rw [Array.toList_push]; exact h3.append ⟨hc, hv, rfl, trivial⟩⟩⟩
            simp only [Instr.mapUpdate, Sem.run_bind, run_und hE hu, hgo, Result.andThen_ok, hlaw.check hgood hc, f1, hst]
          · cases hl
        · cases hl
  · cases hl

theorem delEnt_find {eq : AV → AV → Option Bool} {k : AV} : ∀ {es es' : List AEnt}, delEnt eq k es = some es' → (findEnt eq k es = some none ∧ es' = es) ∨ ∃ v, findEnt eq k es = some (some v)
  | [], es', h => by cases h; exact .inl ⟨rfl, rfl⟩
  | e :: r, es', h => by
    simp only [delEnt] at h
    simp only [findEnt]
    cases hq : eq k e.key with
    | none => rw [hq] at h; cases h
    | some b =>
      rw [hq] at h
      cases b with
      | true => exact .inr ⟨e.val, rfl⟩
      | false =>
        dsimp only at h ⊢
        cases hd : delEnt eq k r with
        | none => rw [hd] at h; cases h
        | some l =>
          rw [hd] at h
          cases h
          rcases delEnt_find hd with ⟨h1, rfl⟩ | h1
          · exact .inl ⟨h1, rfl⟩
          · exact .inr h1

theorem delEnt_rel {t : TypeId} {eq : AV → AV → Option Bool} (hk : KeyLaw Y E t eq) {k : AV} {ck : Value} (hc : conc Y ρ k = some ck) : ∀ (es es' : List AEnt) (l : List MapEntry) (j : Nat), EntRel Y ρ es l → delEnt eq k es = some es' → firstAt ck l j → EntRel Y ρ es' (l.eraseIdx j) := by
  intro es
  induction es with
  | nil =>
    intro es' l j hr hs hj
    cases l with
    | nil => obtain ⟨e, he, _⟩ := hj; simp at he
    | cons _ _ => exact hr.elim
  | cons a es ih =>
    intro es' l j hr hs hj
    cases l with
    | nil => exact hr.elim
    | cons e l =>
      obtain ⟨h1, h2, h3, h4⟩ := hr
      simp only [delEnt] at hs
      cases hq : eq k a.key with
      | none => rw [hq] at hs; cases hs
      | some b =>
        rw [hq] at hs
        have hif := hk.iff hq hc h1
        obtain ⟨e₁, k1, k2, k3⟩ := hj
        cases b with
        | true =>
          cases hs
          have hj0 : j = 0 := by
            cases j with
            | zero => rfl
            | succ j => exact absurd (hif.1 rfl).symm (k3 0 e (by omega) rfl)
          subst hj0
          exact h4
        | false =>
          dsimp only at hs
          cases hs' : delEnt eq k es with
          | none => rw [hs'] at hs; cases hs
          | some es₁ =>
            rw [hs'] at hs
            cases hs
            cases j with
            | zero =>
              simp at k1
              subst k1
              have := hif.2 k2.symm
              cases this
            | succ j =>
              exact ⟨h1, h2, h3, ih es₁ l j h4 hs' ⟨e₁, by simpa using k1, k2, fun i e' hi he => k3 (i + 1) e' (by omega) (by simpa using he)⟩⟩

theorem delete_ok (hE : EnvOk Y E) (hr : Rel Y E ρ h w) {t ty : TypeId} {ts : Array TypeId} (hts : ts[0]? = some t) {m k : AV} {cm ck : Value} {h' : H} (hl : deleteA E h t m k = some h') (hm : conc Y ρ m = some cm) (hc : conc Y ρ k = some ck) :
    ∃ w', (Builtin.delete_ ts ty #[cm, ck]).run E.P w = .ok (.tuple #[]) w' ∧ Goes Y E ρ h w ρ h' w' := by
  unfold deleteA at hl
  split at hl
  · rename_i kt et hu
    split at hl
    · cases hl
    · rename_i eq hk
      split at hl
      · cases hl
      · rename_i hg
        have hlaw := keyLaw (Y := Y) hE hk
        have hgood := goodKey_eq hg
        obtain ⟨d, hd⟩ := keyEq_und hk
        have e0 : (#[cm, ck] : Array Value)[0]? = some cm := rfl
        have e1 : (#[cm, ck] : Array Value)[1]? = some ck := rfl
        split at hl
        · cases hm
          cases hl
          refine ⟨w, ?_, Goes.refl hr⟩
          simp only [Builtin.delete_, hts, e0, e1, Sem.run_bind, run_und hE hu, Result.andThen_ok, hlaw.check hgood hc, Sem.run_pure]
        · rename_i b
          split at hl
          · rename_i es clock hb
            split at hl
            · rename_i es' hes
              obtain ⟨L, l, h1, h2, h3⟩ := hr.mapAt hb
              obtain ⟨L', hL', rfl⟩ := conc_map hm
              rw [h1] at hL'
              cases hL'
              have hgo : (getObj L.blk).run E.P w = .ok (.map l clock) w := run_getObj' h2 (fun _ _ _ h => by cases h)
              have hst : ∀ o', (setObj L.blk o').run E.P w = .ok () (putW w L.blk o') := fun o' => run_setObj' h2 (fun _ _ _ h => by cases h)
              rcases delEnt_find hes with ⟨hf, rfl⟩ | ⟨x, hf⟩
              · obtain ⟨cr, f1, f2⟩ := findKey_ok (run_und (w := w) hE hd) hlaw hc es' l.toList none h3 hf
                cases f2
                refine ⟨putW w L.blk (.map l clock), ?_, Goes.put hr hb rfl h1 hl ⟨_, rfl, h3⟩⟩
                simp only [Builtin.delete_, hts, e0, e1, Sem.run_bind, run_und hE hu, hgo, Result.andThen_ok, hlaw.check hgood hc, f1, hst, Sem.run_pure]
              · obtain ⟨j, cx, f1, f2⟩ := findKey_first (run_und (w := w) hE hd) hlaw hc es l.toList h3 hf
                have hrel := delEnt_rel hlaw hc es es' l.toList j h3 hes f2
                refine ⟨putW w L.blk (.map (l.eraseIdxIfInBounds j) clock), ?_, Goes.put hr hb rfl h1 hl ⟨_, rfl, by rw [Array.toList_eraseIdxIfInBounds]; exact hrel⟩⟩
                simp only [Builtin.delete_, hts, e0, e1, Sem.run_bind, run_und hE hu, hgo, Result.andThen_ok, hlaw.check hgood hc, f1, hst, Sem.run_pure]
            · cases hl
          · cases hl
        · cases hl
  · cases hl

theorem clear_ok (hE : EnvOk Y E) (hr : Rel Y E ρ h w) {t ty : TypeId} {ts : Array TypeId} (hts : ts[0]? = some t) {x : AV} {cx : Value} {h' : H} (hl : clearA E h t x = some h') (hx : conc Y ρ x = some cx) :
    ∃ w', (Builtin.clear_ ts ty #[cx]).run E.P w = .ok (.tuple #[]) w' ∧ Goes Y E ρ h w ρ h' w' := by
  have e0 : (#[cx] : Array Value)[0]? = some cx := rfl
  have clears : ∀ {elem : TypeId} {b o n c : Nat} {L : Loc}, E.und t = some (.slice elem) → ρ b = some L → clearS E h elem b o n = some h' → ∃ w', (Builtin.clear_ ts ty #[.slice (some (L.addr o)) n c]).run E.P w = .ok (.tuple #[]) w' ∧ Goes Y E ρ h w ρ h' w' := by
    intro elem b o n c L hu hL hl
    unfold clearS at hl
    split at hl
    · rename_i z hz h0
      cases hl
      have := Nat.eq_of_beq_eq_true h0
      subst this
      refine ⟨w, ?_, Goes.refl hr⟩
      simp only [Builtin.clear_, hts, List.getElem?_toArray, List.getElem?_cons_zero, Sem.run_bind, run_und hE hu, Result.andThen_ok, Sem.run_pure]
    · rename_i z hz h0
      obtain ⟨cz, cs, k1, k2, k3, k4⟩ := run_zeros (Y := Y) (ρ := ρ) (w := w) hE hz
      obtain ⟨L', w', e1, e2, e3, _⟩ := storeCells_sound (P := E.P) hr hl (repeat_conc k2 n) (repeat_cell k4 n)
      rw [hL] at e1
      cases e1
      refine ⟨w', ?_, e3⟩
      have hz2 : (Builtin.zeroCells cs.toArray n).toList = repeatC cs n := by
        have := range_zeros cs n
        unfold Builtin.zeroCells
        simp only [List.size_toArray] at this ⊢
        rw [this]
      have hn : n ≠ 0 := Nat.ne_of_beq_eq_false h0
      cases n with
      | zero => exact absurd rfl hn
      | succ n =>
        simp only [Builtin.clear_, hts, List.getElem?_toArray, List.getElem?_cons_zero, Sem.run_bind, run_und hE hu, Result.andThen_ok, k1, k3, hz2, e2, Sem.run_pure]
    · cases hl
  unfold clearA at hl
  split at hl
  · rename_i d hu
    cases hx
    cases hl
    refine ⟨w, ?_, Goes.refl hr⟩
    simp only [Builtin.clear_, hts, e0, Sem.run_bind, run_und hE hu, Result.andThen_ok, Sem.run_pure]
  · rename_i d hu
    cases hx
    cases hl
    refine ⟨w, ?_, Goes.refl hr⟩
    simp only [Builtin.clear_, hts, e0, Sem.run_bind, run_und hE hu, Result.andThen_ok, Sem.run_pure]
  · rename_i d b hu
    split at hl
    · rename_i es clock hb
      obtain ⟨L, l, h1, h2, h3⟩ := hr.mapAt hb
      obtain ⟨L', hL', rfl⟩ := conc_map hx
      rw [h1] at hL'
      cases hL'
      have hgo : (getObj L.blk).run E.P w = .ok (.map l clock) w := run_getObj' h2 (fun _ _ _ h => by cases h)
      have hst : ∀ o', (setObj L.blk o').run E.P w = .ok () (putW w L.blk o') := fun o' => run_setObj' h2 (fun _ _ _ h => by cases h)
      refine ⟨putW w L.blk (.map #[] clock), ?_, Goes.put hr hb rfl h1 hl ⟨_, rfl, trivial⟩⟩
      simp only [Builtin.clear_, hts, e0, Sem.run_bind, run_und hE hu, hgo, Result.andThen_ok, hst, Sem.run_pure]
    · cases hl
  · rename_i elem b o n p hu
    obtain ⟨L, hL, rfl⟩ := conc_gslice hx
    exact clears hu hL hl
  · rename_i elem b o n p hu
    obtain ⟨L, hL, rfl⟩ := conc_slice hx
    exact clears hu hL hl
  · cases hl

/-! ### Ranges -/
theorem Goes.new_ptr {o : AObj} {ob : Obj} {h' : H} {b : Nat} (hr : Rel Y E ρ h w) (hn : h.new o = (b, h')) (ho : ∀ ρ', ρ.le ρ' → ORel Y E ρ' ⟨w.heap.size, 0, 0⟩ o ob) :
    ∃ ρ', Goes Y E ρ h w ρ' h' (w.alloc ob) ∧ ρ' b = some ⟨w.heap.size, 0, 0⟩ := by
  have hle : ρ.le (ρ.set h.next ⟨w.heap.size, 0, 0⟩) := Rho.le_set (hr.fresh h.next (Nat.le_refl _)) _
  have := Goes.alloc (L := ⟨w.heap.size, 0, 0⟩) hr rfl (ho _ hle)
  have e := H.new_eq h o
  rw [hn] at e this
  cases e
  exact ⟨_, this, Rho.set_same _ _ _⟩

theorem range_ok (hE : EnvOk Y E) (hr : Rel Y E ρ h w) {t : TypeId} {x v : AV} {cx : Value} {h' : H} (hl : rangeA E h t x = some (v, h')) (hx : conc Y ρ x = some cx) : Acts Y E ρ h w (Instr.range t cx) v h' := by
  have fin : ∀ (it : AObj) (ob : Obj), (match h.new it with | (b, h') => some (AV.ptr b 0, h')) = some (v, h') → (∀ ρ', ρ.le ρ' → ORel Y E ρ' ⟨w.heap.size, 0, 0⟩ it ob) →
      ∃ ρ', Goes Y E ρ h w ρ' h' (w.alloc ob) ∧ conc Y ρ' v = some (.pointer (some ⟨w.heap.size, 0, none⟩)) := by
    intro it ob he ho
    cases hn : h.new it with
    | mk b h1 =>
      rw [hn] at he
      cases he
      obtain ⟨ρ', k1, k2⟩ := Goes.new_ptr hr hn ho
      exact ⟨ρ', k1, by simp [conc, k2, Loc.addr]⟩
  unfold rangeA at hl
  dsimp only at hl
  split at hl
  · rename_i s hu
    obtain ⟨hok, rfl⟩ := conc_str hx
    obtain ⟨ρ', k1, k2⟩ := fin _ (.stringIter (bytesV s) 0) hl (fun ρ' _ => ⟨rfl, hok, rfl⟩)
    exact ⟨_, _, ρ', by simp [Instr.range, run_und hE hu], k1, k2⟩
  · rename_i kt et hu
    cases hx
    obtain ⟨ρ', k1, k2⟩ := fin _ (.mapIter none 0 #[] 0) hl (fun ρ' _ => ⟨rfl, none, rfl, rfl⟩)
    exact ⟨_, _, ρ', by simp [Instr.range, run_und hE hu], k1, k2⟩
  · rename_i kt et b hu
    split at hl
    · rename_i es clock hb
      obtain ⟨L, l, h1, h2, h3⟩ := hr.mapAt hb
      obtain ⟨L', hL', rfl⟩ := conc_map hx
      rw [h1] at hL'
      cases hL'
      have hgo : (getObj L.blk).run E.P w = .ok (.map l clock) w := run_getObj' h2 (fun _ _ _ h => by cases h)
      obtain ⟨ρ', k1, k2⟩ := fin _ (.mapIter (some L.blk) clock #[] clock) hl (fun ρ' hle => ⟨rfl, some L.blk, rfl, L, hle _ _ h1, rfl⟩)
      exact ⟨_, _, ρ', by simp [Instr.range, run_und hE hu, hgo], k1, k2⟩
    · cases hl
  · cases hl

end
end Go.AE
