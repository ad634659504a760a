/-
  '==' and the binary operations.
-/
import Derived.Test.YtmebfcdgbjkcfaaGreatDoorAeOps
import Derived.Laws.StructEq
namespace Go.AE

section
variable {Y : Sy} {E : Env} {ρ : Rho} {w : World}

theorem eqB_eq (a b : Bool) : eqB a b = (a == b) := by cases a <;> cases b <;> rfl

theorem eqStr_bytes {a b : List Nat} (ha : okBytes a = true) (hb : okBytes b = true) : eqStr a b = ((bytesV a).toList == (bytesV b).toList) := by
  rw [ByteArray.toList_eq, ByteArray.toList_eq, bytesV_toList, bytesV_toList, eqStr_eq a b ha hb]

/-- what a value of a basic type may be -/
def kdDesc : Nat → TypeDesc → Prop
  | 0, d => d = .bool
  | 1, d => ∃ k, d = .int k
  | 2, d => d = .string
  | _, _ => False

theorem eqKd_ok {k : Nat} {x y : AV} {cx cy : Value} {b : Bool} (h : eqKd k x y = some b) (hx : conc Y ρ x = some cx) (hy : conc Y ρ y = some cy) {P : Program} {t : TypeId} {d : TypeDesc} (hd : P.underlying t = some d)
    (hk : kdDesc k d) (n : Nat) (w : World) : (Op.equalIn (n + 1) t cx cy).run P w = .ok b w := by
  unfold eqKd at h
  split at h
  · have hd' : d = .bool := hk
    subst hd'
    unfold eqBool at h
    split at h
    · cases h; cases hx; cases hy; rw [eqB_eq]; exact run_equalIn_bool w n t _ _ hd
    · cases h
  · obtain ⟨k', rfl⟩ : ∃ k, d = .int k := hk
    unfold eqInt at h
    split at h
    · cases h; cases hx; cases hy; rw [eqI_eq]; exact run_equalIn_int w n t _ k' _ _ hd
    · split at h
      · rename_i hkk
        have := eqKind_eq hkk
        subst this
        cases h; cases hx; cases hy; rw [eqI_eq]; exact run_equalIn_int w n t _ k' _ _ hd
      · cases h
    · obtain ⟨k, m, n', rfl, rfl, rfl⟩ := eqSyms_ok h hx hy
      exact run_equalIn_int w n t k k' m n' hd
  · have hd' : d = .string := hk
    subst hd'
    unfold eqText at h
    split at h
    · cases h
      obtain ⟨h1, rfl⟩ := conc_str hx
      obtain ⟨h2, rfl⟩ := conc_str hy
      rw [eqStr_bytes h1 h2]
      exact run_equalIn_string w n t _ _ hd
    · obtain ⟨rfl, a1, a2⟩ := conc_sstr hx
      obtain ⟨rfl, b1, b2⟩ := conc_sstr hy
      split at h
      · rename_i hij
        have := Nat.eq_of_beq_eq_true hij
        subst this
        cases h
        rw [run_equalIn_string w n t _ _ hd]
        simp
      · rw [eqLen_ok h a1 a2 b1 b2]
        exact run_equalIn_string w n t _ _ hd
    · have hne := conc_sstr_ne hx
      obtain ⟨rfl, a1, a2⟩ := conc_sstr hx
      obtain ⟨_, rfl⟩ := conc_str hy
      rw [(eqStrC_ok h a1 a2 hne).1]
      exact run_equalIn_string w n t _ _ hd
    · have hne := conc_sstr_ne hy
      obtain ⟨_, rfl⟩ := conc_str hx
      obtain ⟨rfl, a1, a2⟩ := conc_sstr hy
      rw [(eqStrC_ok h a1 a2 hne).2]
      exact run_equalIn_string w n t _ _ hd
    · cases h
  · cases h

theorem kdOf_desc {d : TypeDesc} {k : Nat} (h : kdOf d = some k) : kdDesc k d := by
  unfold kdOf at h
  split at h <;> first | cases h | skip
  · rfl
  · exact ⟨_, rfl⟩
  · rfl

/-- the cells of a value of type t out of a row of cells -/
def partV (P : Program) (t : TypeId) (cs : List Value) (off : Nat) : Value :=
  match P.underlying t with
  | some (.struct _) | some (.array _ _) => .agg (cs.toArray.extract off (off + P.cellsOf t))
  | _ => cs.getD off undef

theorem run_isAgg_of {P : Program} {t : TypeId} {d : TypeDesc} (hd : P.underlying t = some d) (w : World) : (isAgg t).run P w = .ok (isAggD d) w := by
  simp only [isAgg, underlying, Sem.run_bind, run_program, Result.andThen_ok, hd]
  cases d <;> rfl

theorem run_sizeOf_of {P : Program} {t : TypeId} (hi : (P.info? t).isSome = true) (w : World) : (sizeOf t).run P w = .ok (P.cellsOf t) w := by
  obtain ⟨i, hi⟩ := Option.isSome_iff_exists.1 hi
  simp [sizeOf, typeInfo, Program.cellsOf, hi]

theorem eqCells_split : ∀ (ks l : List Nat) (x y : List AV) (b : Bool), eqCells (ks ++ l) x y = some b →
    ∃ b1, eqCells ks (x.take ks.length) (y.take ks.length) = some b1 ∧ (b1 = false → b = false) ∧ (b1 = true → eqCells l (x.drop ks.length) (y.drop ks.length) = some b) := by
  intro ks
  induction ks with
  | nil => intro l x y b h; exact ⟨true, by simp [eqCells], (fun h => by cases h), fun _ => by simpa using h⟩
  | cons k ks ih =>
    intro l x y b h
    cases x with
    | nil => simp [eqCells] at h
    | cons a x =>
      cases y with
      | nil => simp [eqCells] at h
      | cons c y =>
        simp only [List.cons_append, eqCells] at h
        simp only [List.length_cons, List.take_succ_cons, List.drop_succ_cons, eqCells]
        cases hk : eqKd k a c with
        | none => rw [hk] at h; cases h
        | some r =>
          rw [hk] at h
          cases r with
          | false => cases h; exact ⟨false, rfl, fun _ => rfl, (fun h => by cases h)⟩
          | true => exact ih l x y b h

theorem eqCells_lengths : ∀ {ks : List Nat} {x y : List AV}, eqCells ks x y = some true → x.length = ks.length ∧ y.length = ks.length := by
  intro ks
  induction ks with
  | nil => intro x y h; cases x <;> cases y <;> simp [eqCells] at h ⊢
  | cons k ks ih =>
    intro x y h
    cases x with
    | nil => simp [eqCells] at h
    | cons a x =>
      cases y with
      | nil => simp [eqCells] at h
      | cons c y =>
        simp only [eqCells] at h
        cases hk : eqKd k a c with
        | none => rw [hk] at h; cases h
        | some r =>
          rw [hk] at h
          cases r with
          | false => cases h
          | true => obtain ⟨h1, h2⟩ := ih h; simp [h1, h2]

/-- a value of type t with these cells -/
def packV (P : Program) (t : TypeId) (cs : List Value) : Value :=
  match P.underlying t with
  | some (.struct _) => .agg cs.toArray
  | _ => cs.getD 0 undef

theorem part_pack {P : Program} {t : TypeId} {d : Nat} {ks : List Nat} (hf : flatAt P d t = some ks) (hc : P.cellsOf t = ks.length) (hi : (P.info? t).isSome = true) {cs : List Value} {off : Nat}
    (hne : off < cs.length ∨ ∃ fs, P.underlying t = some (.struct fs)) (w : World) : (part t cs.toArray off).run P w = .ok (packV P t ((cs.drop off).take ks.length)) w := by
  cases d with
  | zero => cases hf
  | succ d =>
    simp only [flatAt] at hf
    split at hf
    · rename_i hu
      cases hf
      have hlt : off < cs.length := hne.resolve_right (fun ⟨fs, h⟩ => by rw [hu] at h; cases h)
      simp [part, run_isAgg_of hu, isAggD, packV, hu, hlt, List.getD]
    · rename_i k hu
      cases hf
      have hlt : off < cs.length := hne.resolve_right (fun ⟨fs, h⟩ => by rw [hu] at h; cases h)
      simp [part, run_isAgg_of hu, isAggD, packV, hu, hlt, List.getD]
    · rename_i hu
      cases hf
      have hlt : off < cs.length := hne.resolve_right (fun ⟨fs, h⟩ => by rw [hu] at h; cases h)
      simp [part, run_isAgg_of hu, isAggD, packV, hu, hlt, List.getD]
    · rename_i fs hu
      simp [part, run_isAgg_of hu, isAggD, packV, hu, run_sizeOf_of hi, hc]
    · cases hf

theorem eqFields_flat {P : Program} {d n : Nat}
    (ih : ∀ (t : TypeId) (ks : List Nat), flatAt P d t = some ks → ∀ (x y : List AV) (cx cy : List Value) (b : Bool), concs Y ρ x = some cx → concs Y ρ y = some cy → eqCells ks x y = some b → ∀ w, (Op.equalIn n t (packV P t cx) (packV P t cy)).run P w = .ok b w)
    (X Z : List AV) (cX cZ : List Value) (hX : concs Y ρ X = some cX) (hZ : concs Y ρ Z = some cZ) : ∀ (fs : List Field) (off : Nat) (l : List Nat) (b : Bool) (w : World), flatFields P (flatAt P d) fs off = some l →
      eqCells l (X.drop off) (Z.drop off) = some b → (Op.eqFields n cX.toArray cZ.toArray fs).run P w = .ok b w := by
  intro fs
  induction fs with
  | nil =>
    intro off l b w hf he
    cases hf
    have : b = true := by
      cases hx : X.drop off with
      | nil =>
        cases hz : Z.drop off with
        | nil => rw [hx, hz] at he; simpa [eqCells] using he.symm
        | cons _ _ => rw [hx, hz] at he; simp [eqCells] at he
      | cons _ _ => rw [hx] at he; simp [eqCells] at he
    subst this
    rfl
  | cons f r ihr =>
    intro off l b w hf he
    simp only [flatFields] at hf
    split at hf
    · cases hf
    · rename_i hnb
      simp only [not_or, Decidable.not_not] at hnb
      obtain ⟨hname, hoff⟩ := hnb
      split at hf
      · rename_i ks l' h1 h2
        split at hf
        · rename_i hcond
          obtain ⟨hcells, hinfo⟩ := hcond
          cases hf
          obtain ⟨b1, e1, e2, e3⟩ := eqCells_split ks l' _ _ b he
          have hlenX : ks ≠ [] → off < X.length := by
            intro hk
            cases ks with
            | nil => exact absurd rfl hk
            | cons k ks =>
              rcases Nat.lt_or_ge off X.length with h' | h'
              · exact h'
              · rw [List.drop_eq_nil_of_le h'] at he; simp [eqCells] at he
          have hlenZ : ks ≠ [] → off < Z.length := by
            intro hk
            cases ks with
            | nil => exact absurd rfl hk
            | cons k ks =>
              rcases Nat.lt_or_ge off Z.length with h' | h'
              · exact h'
              · rw [List.drop_eq_nil_of_le h'] at he
                cases hx : X.drop off with
                | nil => rw [hx] at he; simp [eqCells] at he
                | cons _ _ => rw [hx] at he; simp [eqCells] at he
          have hstr : ks = [] → ∃ fs, P.underlying f.type = some (.struct fs) := by
            intro hk
            subst hk
            cases d with
            | zero => cases h1
            | succ d =>
              simp only [flatAt] at h1
              split at h1 <;> first | (cases h1; done) | skip
              rename_i fs hu
              exact ⟨fs, hu⟩
          have p1 := part_pack (w := w) h1 hcells hinfo (cs := cX) (off := off) (by
            by_cases hk : ks = []
            · exact .inr (hstr hk)
            · exact .inl (by rw [concs_length hX]; exact hlenX hk))
          have p2 := part_pack (w := w) h1 hcells hinfo (cs := cZ) (off := off) (by
            by_cases hk : ks = []
            · exact .inr (hstr hk)
            · exact .inl (by rw [concs_length hZ]; exact hlenZ hk))
          have h3 := ih f.type ks h1 _ _ _ _ b1 (concs_take (concs_drop hX off) ks.length) (concs_take (concs_drop hZ off) ks.length) e1 w
          simp only [Op.eqFields, hname, ne_eq, not_false_eq_true, if_true, hoff, Sem.run_bind, p1, p2, h3, Result.andThen_ok, Sem.run_ite]
          cases b1 with
          | false => simp [e2 rfl]
          | true =>
            simp only [Bool.not_true, Bool.false_eq_true, if_false]
            have h4 := e3 rfl
            rw [List.drop_drop, List.drop_drop] at h4
            exact ihr (off + ks.length) l' b w (by rw [← hcells]; exact h2) h4
        · cases hf
      · cases hf

theorem equalIn_flat {P : Program} : ∀ (d n : Nat), d ≤ n → ∀ (t : TypeId) (ks : List Nat), flatAt P d t = some ks → ∀ (x y : List AV) (cx cy : List Value) (b : Bool), concs Y ρ x = some cx → concs Y ρ y = some cy →
    eqCells ks x y = some b → ∀ w, (Op.equalIn n t (packV P t cx) (packV P t cy)).run P w = .ok b w := by
  intro d
  induction d with
  | zero => intro n _ t ks h; cases h
  | succ d ih =>
    intro n hn t ks hf x y cx cy b hx hy he w
    obtain ⟨n, rfl⟩ : ∃ m, n = m + 1 := ⟨n - 1, by omega⟩
    have basic : ∀ k desc, P.underlying t = some desc → kdDesc k desc → (∀ fs, desc ≠ .struct fs) → ks = [k] → (Op.equalIn (n + 1) t (packV P t cx) (packV P t cy)).run P w = .ok b w := by
      intro k desc hu hk hns hks
      subst hks
      cases x with
      | nil => simp [eqCells] at he
      | cons a x =>
        cases y with
        | nil => simp [eqCells] at he
        | cons c y =>
          obtain ⟨ca, cr, h1, _, rfl⟩ := concs_cons.1 hx
          obtain ⟨cc, cs, h2, _, rfl⟩ := concs_cons.1 hy
          have e1 : packV P t (ca :: cr) = ca := by
            unfold packV; rw [hu]; cases desc <;> first | rfl | exact absurd rfl (hns _)
          have e2 : packV P t (cc :: cs) = cc := by
            unfold packV; rw [hu]; cases desc <;> first | rfl | exact absurd rfl (hns _)
          rw [e1, e2]
          simp only [eqCells] at he
          cases hk' : eqKd k a c with
          | none => rw [hk'] at he; cases he
          | some r =>
            rw [hk'] at he
            have hr := eqKd_ok hk' h1 h2 hu hk n w
            cases r with
            | false => cases he; exact hr
            | true =>
              have : b = true := by
                cases x <;> cases y <;> simp [eqCells] at he <;> first | exact he | exact he.symm
              rw [this]; exact hr
    simp only [flatAt] at hf
    split at hf
    · rename_i hu; cases hf; exact basic 0 _ hu rfl (fun _ h => by cases h) rfl
    · rename_i k hu; cases hf; exact basic 1 _ hu ⟨k, rfl⟩ (fun _ h => by cases h) rfl
    · rename_i hu; cases hf; exact basic 2 _ hu rfl (fun _ h => by cases h) rfl
    · rename_i fs hu
      split at hf
      · cases hf
      · rename_i hst
        have e1 : packV P t cx = .agg cx.toArray := by unfold packV; rw [hu]
        have e2 : packV P t cy = .agg cy.toArray := by unfold packV; rw [hu]
        have hfo : P.fieldsOf t = fs := by unfold Program.fieldsOf; rw [hu]
        rw [e1, e2, run_equalIn_agg w n t _ _ (by rw [hfo]; exact hu) (by simpa using hst), hfo]
        exact eqFields_flat (fun t ks h x y cx cy b h1 h2 h3 w => ih n (by omega) t ks h x y cx cy b h1 h2 h3 w) x y cx cy hx hy fs.toList 0 ks b w hf (by simpa using he)
    · cases hf

theorem flat_struct {P : Program} {t : TypeId} {fs : Array Field} {cs : List Value} (hu : P.underlying t = some (.struct fs)) : packV P t cs = .agg cs.toArray := by
  unfold packV; rw [hu]

/-! ### '==' -/
set_option maxHeartbeats 1000000 in
theorem eqA_ok (hE : EnvOk Y E) {t : TypeId} {x y : AV} {cx cy : Value} {b : Bool} (h : eqA E t x y = some b) (hx : conc Y ρ x = some cx) (hy : conc Y ρ y = some cy) :
    (Op.equal t cx cy).run E.P w = .ok b w := by
  unfold Op.equal
  obtain ⟨n, e0, hn⟩ : ∃ n, Op.maxDepth = n + 1 + 1 ∧ 20 ≤ n := ⟨9998, rfl, by decide⟩
  rw [e0]
  clear e0
  unfold eqA at h
  split at h
  · rename_i el hd
    have hu := run_und (w := w) hE hd
    split at h
    · cases h; cases hx; cases hy; (rw [Op.equalIn]; simp only [Sem.run_bind, hu, Result.andThen_ok]; rfl)
    · cases h; cases hx; obtain ⟨L, _, rfl⟩ := conc_ptr hy; (rw [Op.equalIn]; simp only [Sem.run_bind, hu, Result.andThen_ok]; rfl)
    · cases h; cases hy; obtain ⟨L, _, rfl⟩ := conc_ptr hx; (rw [Op.equalIn]; simp only [Sem.run_bind, hu, Result.andThen_ok]; rfl)
    · split at h
      · rename_i n' hb hn'
        have := Nat.eq_of_beq_eq_true hb
        subst this
        split at h
        · cases h
        · rename_i hn0
          have hn1 : n' ≠ 0 := Nat.ne_of_beq_eq_false hn0
          cases h
          obtain ⟨L, hL, rfl⟩ := conc_ptr hx
          obtain ⟨M, hM, rfl⟩ := conc_ptr hy
          rw [hL] at hM
          cases hM
          have hoo : ∀ p q : Nat, (L.addr p == L.addr q) = Nat.beq p q := by
            intro p q
            rw [Bool.eq_iff_iff]
            simp [Loc.addr, Nat.beq_eq]
          rw [Op.equalIn]
          simp only [Sem.run_bind, hu, Result.andThen_ok, run_size hE hn', hn1, ne_eq, not_false_eq_true, if_true, sameAddr]
          rw [← hoo]
          simp [Loc.addr]
      · cases h
    · cases h
  · rename_i el hd
    have hu := run_und (w := w) hE hd
    split at h
    · cases h; cases hx; cases hy; (rw [Op.equalIn]; simp only [Sem.run_bind, hu, Result.andThen_ok]; rfl)
    · cases h; cases hx; obtain ⟨L, _, rfl⟩ := conc_slice hy; (rw [Op.equalIn]; simp only [Sem.run_bind, hu, Result.andThen_ok]; rfl)
    · cases h; cases hx; obtain ⟨L, _, rfl⟩ := conc_gslice hy; (rw [Op.equalIn]; simp only [Sem.run_bind, hu, Result.andThen_ok]; rfl)
    · cases h; cases hy; obtain ⟨L, _, rfl⟩ := conc_slice hx; (rw [Op.equalIn]; simp only [Sem.run_bind, hu, Result.andThen_ok]; rfl)
    · cases h; cases hy; obtain ⟨L, _, rfl⟩ := conc_gslice hx; (rw [Op.equalIn]; simp only [Sem.run_bind, hu, Result.andThen_ok]; rfl)
    · cases h; cases hx; obtain ⟨_, _, rfl⟩ := conc_eslice hy; (rw [Op.equalIn]; simp only [Sem.run_bind, hu, Result.andThen_ok]; rfl)
    · cases h; cases hy; obtain ⟨_, _, rfl⟩ := conc_eslice hx; (rw [Op.equalIn]; simp only [Sem.run_bind, hu, Result.andThen_ok]; rfl)
    · cases h
  · rename_i hd
    have hu := run_und (w := w) hE hd
    split at h
    · cases h; cases hx; cases hy; (rw [Op.equalIn]; simp only [Sem.run_bind, hu, Result.andThen_ok]; rfl)
    · cases h; cases hx; obtain ⟨L, _, rfl⟩ := conc_map hy; (rw [Op.equalIn]; simp only [Sem.run_bind, hu, Result.andThen_ok]; rfl)
    · cases h; cases hy; obtain ⟨L, _, rfl⟩ := conc_map hx; (rw [Op.equalIn]; simp only [Sem.run_bind, hu, Result.andThen_ok]; rfl)
    · cases h
  · rename_i hd
    have hu := run_und (w := w) hE hd
    split at h
    · cases h; cases hx; cases hy; (rw [Op.equalIn]; simp only [Sem.run_bind, hu, Result.andThen_ok]; rfl)
    · cases h; cases hx
      simp only [conc] at hy
      split at hy
      · cases hy; (rw [Op.equalIn]; simp only [Sem.run_bind, hu, Result.andThen_ok]; rfl)
      · cases hy
    · cases h; cases hy
      simp only [conc] at hx
      split at hx
      · cases hx; (rw [Op.equalIn]; simp only [Sem.run_bind, hu, Result.andThen_ok]; rfl)
      · cases hx
    · cases h
  · rename_i hd
    have hu := run_und (w := w) hE hd
    split at h
    · cases h; cases hx; obtain ⟨c, _, rfl⟩ := conc_iface hy; (rw [Op.equalIn]; simp only [Sem.run_bind, hu, Result.andThen_ok]; rfl)
    · cases h; cases hy; obtain ⟨c, _, rfl⟩ := conc_iface hx; (rw [Op.equalIn]; simp only [Sem.run_bind, hu, Result.andThen_ok]; rfl)
    · obtain ⟨c, hc, rfl⟩ := conc_iface hx
      obtain ⟨c', hc', rfl⟩ := conc_iface hy
      split at h
      · rename_i hne
        have hne' := Nat.ne_of_beq_eq_false hne
        cases h
        rw [Op.equalIn]
        simp only [Sem.run_bind, hu, Result.andThen_ok, ne_eq, hne', not_false_eq_true, if_true]
        rfl
      · rename_i heq
        have := Nat.eq_of_beq_eq_true heq
        subst this
        split at h
        · rename_i i d hi hd'
          split at h
          · rename_i k hcomp hk
            have h1 := eqKd_ok h hc hc' (und_ok hE hd') (kdOf_desc hk) n w
            rw [Op.equalIn]
            simp only [Sem.run_bind, hu, Result.andThen_ok, ne_eq, not_true_eq_false, if_false, run_info hE hi, hcomp, Bool.not_true, Bool.false_eq_true]
            exact h1
          · cases h
        · cases h
    · cases h
  · rename_i fs hd
    split at h
    · rename_i a c
      split at h
      · rename_i ks hks
        obtain ⟨hflat, _⟩ := hE.eqs t ks hks
        obtain ⟨ca, h1, rfl, _⟩ := conc_agg hx
        obtain ⟨cc, h2, rfl, _⟩ := conc_agg hy
        unfold eqCellsO at h
        split at h
        · rename_i h0
          cases h
          have := equalIn_flat (Y := Y) (ρ := ρ) 20 (n + 1 + 1) (by omega) t ks hflat a c ca cc b h1 h2 h0 w
          rw [flat_struct (und_ok hE hd), flat_struct (und_ok hE hd)] at this
          exact this
        · obtain ⟨x', y', cx, cy, k1, k2, k3, k4, k5⟩ := hE.orc _ (orcEqa_mem h)
          obtain rfl := Option.some.inj (h1.symm.trans (k1 ρ))
          obtain rfl := Option.some.inj (h2.symm.trans (k2 ρ))
          have := equalIn_flat (Y := Y) (ρ := ρ) 20 (n + 1 + 1) (by omega) t ks hflat x' y' ca cc b (k3 ρ) (k4 ρ) k5 w
          rw [flat_struct (und_ok hE hd), flat_struct (und_ok hE hd)] at this
          exact this
      · cases h
    · cases h
  · rename_i d _ _ _ _ _ _ hd
    split at h
    · rename_i k hk
      exact eqKd_ok h hx hy (und_ok hE hd) (kdOf_desc hk) (n + 1) w
    · cases h
  · cases h

theorem eqGuard_plain {op : BinOp} {t : TypeId} {x y : Operand} {a b : Value} (h1 : ¬ (a = .nilIface ∧ b = .nilIface)) (h2 : ∀ l m, ¬ (a = .agg l ∧ b = .agg m)) : (eqGuard op t x y a b).run E.P w = .ok () w := by
  have key : ∀ c : Bool, (if (!c) = true then (pure () : Sem Unit) else (eqGuard .eql t x y a b)).run E.P w = .ok () w := by
    intro c
    cases c with
    | false => rfl
    | true =>
      cases a with
      | nilIface =>
        cases b with
        | nilIface => exact absurd ⟨rfl, rfl⟩ h1
        | _ => rfl
      | agg l =>
        cases b with
        | agg m => exact absurd ⟨rfl, rfl⟩ (h2 l m)
        | _ => rfl
      | _ => rfl
  cases op with
  | eql => exact key true
  | neq => exact key true
  | _ => rfl

theorem eqGuard_const {op : BinOp} {t : TypeId} {x y : Operand} (h : (isConstO x || isConstO y) = true) : (eqGuard op t x y .nilIface .nilIface).run E.P w = .ok () w := by
  have key : (eqGuard .eql t x y .nilIface .nilIface).run E.P w = .ok () w := by
    cases x with
    | const v => rfl
    | _ =>
      cases y with
      | const v => rfl
      | _ => cases h
  cases op with
  | eql => exact key
  | neq => exact key
  | _ => rfl

end
end Go.AE
