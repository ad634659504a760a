/-
  Regions in the text's order; what a region leaves; what code leaves.
-/
import Derived.Test.YtmebfcdgbjkcfaaGreatDoorAeSeq
namespace Go.AE

section
variable {Y : Sy} {E : Env} {ρ : Rho} {h : H} {w : World}

/-! ### Deferred calls -/
def DefsRel (Y : Sy) (ρ : Rho) : List ADef → List Deferred → Prop
  | [], [] => True
  | .mark b :: r, d :: s => (∃ L, ρ b = some L ∧ d.target = .collected L.blk) ∧ DefsRel Y ρ r s
  | .call fn cap args :: r, d :: s => (∃ fn' ccap cargs, concFn ρ fn = some fn' ∧ concs Y ρ cap = some ccap ∧ concs Y ρ args = some cargs ∧ d.target = .fn fn' ccap.toArray ∧ d.args = cargs.toArray) ∧ DefsRel Y ρ r s
  | _, _ => False

theorem DefsRel.mono {ρ' : Rho} (hle : ρ.le ρ') : ∀ {df : List ADef} {ds : List Deferred}, DefsRel Y ρ df ds → DefsRel Y ρ' df ds
  | [], [], _ => trivial
  | .mark _ :: _, _ :: _, ⟨⟨L, hL, e⟩, h2⟩ => ⟨⟨L, hle _ _ hL, e⟩, h2.mono hle⟩
  | .call _ _ _ :: _, _ :: _, ⟨⟨fn', cc, ca, h1, h2, h3, h4, h5⟩, h6⟩ => ⟨⟨fn', cc, ca, concFn_mono hle h1, concs_mono hle h2, concs_mono hle h3, h4, h5⟩, h6.mono hle⟩
  | [], _ :: _, h => h.elim
  | .mark _ :: _, [], h => h.elim
  | .call _ _ _ :: _, [], h => h.elim

/-- a deferred call, held as a value -/
def DefRel (Y : Sy) (ρ : Rho) (v : AV) (d : Deferred) : Prop :=
  ∃ fn first cap fn' cfirst ccap, v = .func fn first cap ∧ concFn ρ fn = some fn' ∧ concs Y ρ first = some cfirst ∧ concs Y ρ cap = some ccap ∧ d = { target := .fn fn' ccap.toArray, args := cfirst.toArray }

theorem DefRel.mono {ρ' : Rho} (hle : ρ.le ρ') {v : AV} {d : Deferred} (h : DefRel Y ρ v d) : DefRel Y ρ' v d :=
  let ⟨fn, first, cap, fn', cf, cc, e, h1, h2, h3, h4⟩ := h; ⟨fn, first, cap, fn', cf, cc, e, concFn_mono hle h1, concs_mono hle h2, concs_mono hle h3, h4⟩

/-- the deferred calls among the values of a region -/
def DfR (Y : Sy) (ρ : Rho) : List Bool → List AV → List Deferred → Prop
  | [], _, new => new = []
  | true :: fs, v :: env, d :: new => DefRel Y ρ v d ∧ DfR Y ρ fs env new
  | false :: fs, _ :: env, new => DfR Y ρ fs env new
  | _, _, _ => False

theorem DfR.mono {ρ' : Rho} (hle : ρ.le ρ') : ∀ {fs : List Bool} {env : List AV} {new : List Deferred}, DfR Y ρ fs env new → DfR Y ρ' fs env new
  | [], _, _, h => h
  | true :: _, _ :: _, _ :: _, h => ⟨h.1.mono hle, DfR.mono hle h.2⟩
  | false :: fs, _ :: env, new, h => DfR.mono (fs := fs) (env := env) (new := new) hle h
  | true :: _, [], _, h => h.elim
  | true :: _, _ :: _, [], h => h.elim
  | false :: _, [], _, h => h.elim

theorem nthA_at (pre : List AV) (v : AV) (r : List AV) : nthA pre.length (pre ++ v :: r) = v := by
  induction pre with
  | nil => rfl
  | cons a pre ih => exact ih

theorem pushDefs_ok {df : List ADef} {ds : List Deferred} (hd : DefsRel Y ρ df ds) : ∀ (fs : List Bool) (pre env : List AV) (new : List Deferred) (df' : List ADef), DfR Y ρ fs env new → pushDefs (defersOf fs pre.length) (pre ++ env) df = some df' → DefsRel Y ρ df' (new ++ ds)
  | [], pre, env, new, df', h, hp => by
    have : new = [] := h
    subst this
    simp only [defersOf, pushDefs, Option.some.injEq] at hp
    subst hp
    exact hd
  | true :: fs, pre, v :: env, d :: new, df', h, hp => by
    simp only [defersOf, pushDefs] at hp
    rw [bnd_eq] at hp
    obtain ⟨df₁, h1, hp⟩ := hp
    rw [bnd_eq] at hp
    obtain ⟨x, h2, hp⟩ := hp
    cases hp
    rw [nthA_at] at h2
    obtain ⟨fn, first, cap, fn', cf, cc, rfl, k1, k2, k3, rfl⟩ := h.1
    cases h2
    refine ⟨⟨fn', cc, cf, k1, k3, k2, rfl, rfl⟩, ?_⟩
    refine pushDefs_ok hd fs (pre ++ [.func fn first cap]) env new df₁ h.2 ?_
    simpa using h1
  | false :: fs, pre, v :: env, new, df', h, hp => by
    simp only [defersOf] at hp
    refine pushDefs_ok hd fs (pre ++ [v]) env new df' h ?_
    simpa using hp
  | true :: _, _, [], _, _, h, _ => h.elim
  | true :: _, _, _ :: _, [], _, h, _ => h.elim
  | false :: _, _, [], _, _, h, _ => h.elim

theorem defersOf_nil : ∀ (fs : List Bool) (i : Nat) (env : List AV) (new : List Deferred), defersOf fs i = [] → DfR Y ρ fs env new → new = []
  | [], _, _, _, _, h => h
  | true :: _, _, _, _, hd, _ => by cases hd
  | false :: fs, i, _ :: env, new, hd, h => defersOf_nil fs (i + 1) env new hd h
  | false :: _, _, [], _, _, h => h.elim

/-- a deferred call is laid -/
theorem deferK_ok (hE : EnvOk Y E) {rc : Rec} {L : Lv} (hng : L.ng = E.ng) (hg : Glob E ρ) {ds : List (Option Tmp)} {env : List AV} {tm : T AV} {a : Act} (he : ERel Y ρ L ds env tm a.tmps) {o : Oper} {k : KV}
    (hk : (deferK L ds (cOp E o.op)).run rc tm env h k = true) : ∃ v d, DefRel Y ρ v d ∧ (execOp a.eval o).run E.P w = .ok (.defer d) w ∧ k v h = true := by
  have hok := cOp_ok (Y := Y) hE o
  cases hc : cOp E o.op with
  | df xs g =>
    rw [hc] at hk hok
    simp only [deferK] at hk
    cases hx : cXs L ds xs with
    | none => rw [hx] at hk; cases hk
    | some X =>
      rw [hx] at hk
      dsimp only at hk
      obtain ⟨v, hv, hk⟩ := optK_eq.1 hk
      obtain ⟨fn, fn', first, cap, cf, cc, rfl, k1, k2, k3, k4⟩ := hok.2 ρ a.eval w _ v (cXs_ok he hg hng hx) hv
      exact ⟨_, _, ⟨fn, first, cap, fn', cf, cc, rfl, k1, k2, k3, rfl⟩, k4, hk⟩
  | _ => rw [hc] at hk; cases hk

theorem cOps_cons (E : Env) (L : Lv) (ops : List Oper) (o : Oper) (l : List Oper) (ds : List (Option Tmp)) (rc : Rec) (tm : T AV) (env : List AV) (h : H) (k : List AV → H → Bool) :
    (cOps E L ops (o :: l) ds).run rc tm env h k = (cStep E L ops ds o).run rc tm env h fun v h' => (cOps E L ops l (o.dst :: ds)).run rc tm (v :: env) h' k := rfl

theorem ops_ok (hE : EnvOk Y E) {rc : Rec} (hrc : RecOk Y E rc) {L : Lv} (hng : L.ng = E.ng) {arr : Array Oper} {nt n : Nat} {ro : Option Nat} {tm : T AV} {k : List AV → H → Bool} {Q : Exit → Act → World → Prop} :
    ∀ (l : List Oper) (i : Nat) (ds : List (Option Tmp)) (fs : List Bool) (env : List AV) (new : List Deferred) (ρ : Rho) (h : H) (w : World) (a : Act), arr.toList.drop i = l → Rel Y E ρ h w → Glob E ρ → ERel Y ρ L ds env tm a.tmps → a.tmps.size = nt →
      (∀ o ∈ l, ∀ d, o.dst = some d → d < nt) → (ro = none ∨ ∀ o ∈ l, isDf (cOp E o.op) = false) → DfR Y ρ fs env new → (cOps E L arr.toList l ds).run rc tm env h k = true →
      (∀ ρ' h' w' a' env' more, Goes Y E ρ h w ρ' h' w' → ERel Y ρ' L ((l.map fun o => o.dst).reverse ++ ds) env' tm a'.tmps → a'.tmps.size = nt → DfR Y ρ' ((l.map fun o => isDf (cOp E o.op)).reverse ++ fs) env' (more ++ new) → a'.defers = more ++ a.defers → k env' h' = true → Q .normal a' w') →
      wpOpsIn (fence ro) n E.P arr Q (List.range' i l.length) a w := by
  intro l
  induction l with
  | nil =>
    intro i ds fs env new ρ h w a _ hr hg he hs _ _ hdr hk hQ
    exact hQ ρ h w a env [] (Goes.refl hr) (by simpa using he) hs (by simpa using hdr) rfl hk
  | cons o l ih =>
    intro i ds fs env new ρ h w a hdrop hr hg he hs hdst hro hdr hk hQ
    have hi : arr[i]? = some o := by
      rw [← Array.getElem?_toList]
      have := congrArg (fun l => l[0]?) hdrop
      simpa using this
    have hdrop' : arr.toList.drop (i + 1) = l := by
      have := congrArg List.tail hdrop
      simpa using this
    have hd : ∀ d, o.dst = some d → d < a.tmps.size := fun d hd => by rw [hs]; exact hdst o (by simp) d hd
    have hdst' : ∀ o' ∈ l, ∀ d, o'.dst = some d → d < nt := fun o' ho' => hdst o' (by simp [ho'])
    have hro' : ro = none ∨ ∀ o ∈ l, isDf (cOp E o.op) = false := by
      rcases hro with h | h
      · exact .inl h
      · exact .inr fun o' ho' => h o' (by simp [ho'])
    have hlen : List.range' i (o :: l).length = i :: List.range' (i + 1) l.length := by simp [List.range'_succ]
    rw [hlen]
    simp only [wpOpsIn, hi]
    rw [cOps_cons] at hk
    cases hdf : isDf (cOp E o.op) with
    | true =>
      have hr0 : ro = none := by
        rcases hro with h | h
        · exact h
        · rw [h o (by simp)] at hdf; cases hdf
      subst hr0
      simp only [cStep, hdf] at hk
      cases hgd : o.guard with
      | some _ => rw [hgd] at hk; cases hk
      | none =>
        cases hds : o.dst with
        | some _ => rw [hgd, hds] at hk; cases hk
        | none =>
          rw [hgd, hds] at hk
          dsimp only at hk
          obtain ⟨v, d, hdv, hex, hk'⟩ := deferK_ok (w := w) hE hng hg he hk
          have hw : Region.wanted o (yielded arr a.tmps) = true := by simp [Region.wanted, hgd]
          rw [hw, if_pos rfl]
          refine ⟨fun _ _ => trivial, ?_⟩
          have e : o.semAt (fence none).round a.eval = execOp a.eval o := Oper.semAt_none _ _
          rw [e, hex]
          show wpOpsIn (fence none) n E.P arr Q (List.range' (i + 1) l.length) ({ a with defers := d :: a.defers }.put o.dst undef) w
          rw [hds]
          have he' : ERel Y ρ L (none :: ds) (v :: env) tm a.tmps := by
            refine ⟨fun t j ht => ?_, fun t ht hl => ?_⟩
            · have ht' : posOf t ds (0 + 1) = some j := ht
              rw [posOf_succ, Option.map_eq_some_iff] at ht'
              obtain ⟨j, hj, rfl⟩ := ht'
              exact he.here t j hj
            · have ht' : posOf t ds (0 + 1) = none := ht
              rw [posOf_succ, Option.map_eq_none_iff] at ht'
              exact he.beyond t ht' hl
          refine ih (i + 1) (none :: ds) (true :: fs) (v :: env) (d :: new) ρ h w { a with defers := d :: a.defers } hdrop' hr hg he' hs hdst' hro' ⟨hdv, hdr⟩ hk' ?_
          intro ρ'' h'' w'' a'' env'' more hgo' he'' hs' hdr' hdf' hk''
          refine hQ ρ'' h'' w'' a'' env'' (more ++ [d]) hgo' ?_ hs' ?_ (by rw [hdf']; simp) hk''
          · simpa [hds] using he''
          · simpa [hdf] using hdr'
    | false =>
    simp only [cStep, hdf] at hk
    -- what follows
    have next : ∀ (ρ' : Rho) (h' : H) (w' : World) (av : AV) (v : Value), Goes Y E ρ h w ρ' h' w' → conc Y ρ' av = some v → (cOps E L arr.toList l (o.dst :: ds)).run rc tm (av :: env) h' k = true →
        wpOpsIn (fence ro) n E.P arr Q (List.range' (i + 1) l.length) (a.put o.dst v) w' := by
      intro ρ' h' w' av v hgo hv hk'
      refine ih (i + 1) (o.dst :: ds) (false :: fs) (av :: env) new ρ' h' w' (a.put o.dst v) hdrop' hgo.rel (hg.mono hgo.le) ((he.mono hgo.le).put hv hd) (by rw [put_size]; exact hs) hdst' hro' (DfR.mono hgo.le hdr) hk' ?_
      intro ρ'' h'' w'' a'' env'' more hgo' he' hs' hdr' hdf' hk''
      refine hQ ρ'' h'' w'' a'' env'' more (Goes.trans hr hgo hgo') ?_ hs' ?_ (by rw [hdf', put_defers]) hk''
      · simpa using he'
      · simpa [hdf] using hdr'
    -- the operation goes
    have goes : (stepK L ds (cOp E o.op)).run rc tm env h (fun v h' => (cOps E L arr.toList l (o.dst :: ds)).run rc tm (v :: env) h' k) = true →
        o.wpIn (fence ro) n E.P a w (wpOpsIn (fence ro) n E.P arr Q (List.range' (i + 1) l.length)) Q := by
      intro hk
      refine ⟨fun _ _ => trivial, ?_⟩
      have e : o.semAt (fence ro).round a.eval = execOp a.eval o := Oper.semAt_eq _ _ _ (stepK_not_defer hk)
      rw [e]
      refine upon_of_big (stepK_big hE hrc hr hg hng he hk) ?_
      rintro v w' ⟨ρ', h', av, hgo, hv, hk'⟩
      exact next ρ' h' w' av v hgo hv hk'
    -- it is not known whether it goes
    have unsure : ∀ {d : Tmp} {want : Bool} {X : X} {e : SX} {ks : List Int}, guardOf arr.toList o.guard = some (some (d, want)) → cX L ds (.tmp d) = some X → inOf want (X tm env) = some (e, ks) → (unsureK L ds (cOp E o.op)).run e ks rc tm env h (fun v h' => (cOps E L arr.toList l (o.dst :: ds)).run rc tm (v :: env) h' k) = true →
        (if Region.wanted o (yielded arr a.tmps) then o.wpIn (fence ro) n E.P a w (wpOpsIn (fence ro) n E.P arr Q (List.range' (i + 1) l.length)) Q
          else (∀ f, o.about E.P w a.eval = some f → (fence ro).fn f) ∧ wpOpsIn (fence ro) n E.P arr Q (List.range' (i + 1) l.length) (a.put o.dst undef) w) := by
      intro d want X e ks hgu hx hin hk
      obtain ⟨v, hk', hv0, hv1⟩ := unsure_ok hE hrc hr hg hng he hk
      cases hi : inV (e.val Y) ks with
      | false =>
        rw [wanted_in hg hng he hgu hx hin hi, if_neg (by simp)]
        refine ⟨fun _ _ => trivial, next ρ h w (.when e ks v) undef (Goes.refl hr) ?_ hk'⟩
        simp only [conc, hi, Bool.false_eq_true, if_false]
      | true =>
        rw [wanted_in hg hng he hgu hx hin hi, if_pos rfl]
        refine ⟨fun _ _ => trivial, ?_⟩
        have e0 : o.semAt (fence ro).round a.eval = execOp a.eval o := Oper.semAt_eq _ _ _ hv0
        rw [e0]
        refine upon_of_big (hv1 hi) ?_
        rintro v w' ⟨ρ', h', av, hgo, hv, hk'⟩
        exact next ρ' h' w' av v hgo hv hk'
    split at hk
    · cases hk
    · rename_i g hgu
      unfold guardK at hk
      dsimp only at hk
      split at hk
      · have hw : Region.wanted o (yielded arr a.tmps) = true := by
          have : o.guard = none := by
            unfold guardOf at hgu
            split at hgu
            · rename_i hgn; exact hgn
            · rw [bnd_eq] at hgu
              obtain ⟨_, _, hgu⟩ := hgu
              rw [bnd_eq] at hgu
              obtain ⟨_, _, hgu⟩ := hgu
              cases hgu
          simp [Region.wanted, this]
        rw [hw, if_pos rfl]
        exact goes hk
      · rename_i d want
        cases hx : cX L ds (.tmp d) with
        | none => rw [hx] at hk; cases hk
        | some X =>
          rw [hx] at hk
          dsimp only at hk
          cases hwt : isWanted want (X tm env) with
          | none =>
            rw [hwt] at hk
            dsimp only at hk
            split at hk
            · rename_i e ks hin
              exact unsure hgu hx hin hk
            · cases hk
          | some b =>
            rw [hwt] at hk
            cases b with
            | true =>
              rw [wanted_of hg hng he hgu hx hwt, if_pos rfl]
              exact goes hk
            | false =>
              rw [wanted_of hg hng he hgu hx hwt, if_neg (by simp)]
              exact ⟨fun _ _ => trivial, next ρ h w undefA undef (Goes.refl hr) rfl hk⟩

/-! ### What a region leaves -/
theorem flushOf_lt {L : Lv} {nt : Nat} : ∀ {ds : List (Option Tmp)} {i : Nat} {done : List Nat} {fl : List (Nat × P2)}, flushOf L nt ds i done = some fl → ∀ d, some d ∈ ds → d < nt
  | [], _, _, _, _, d, hd => by cases hd
  | none :: r, i, done, fl, hf, d, hd => by
    rcases List.mem_cons.1 hd with h | h
    · cases h
    · exact flushOf_lt (ds := r) hf d h
  | some e :: r, i, done, fl, hf, d, hd => by
    simp only [flushOf] at hf
    cases hlt : Nat.blt e nt with
    | false => rw [hlt] at hf; cases hf
    | true =>
      rw [hlt] at hf
      dsimp only at hf
      rcases List.mem_cons.1 hd with h | h
      · cases h; exact (blt_iff _ _).1 hlt
      · cases hc : (Nat.testBit L.live e && !memN done e) with
        | false => rw [hc] at hf; exact flushOf_lt (ds := r) hf d h
        | true =>
          rw [hc] at hf
          dsimp only at hf
          rw [bnd_eq] at hf
          obtain ⟨l, hl, _⟩ := hf
          exact flushOf_lt (ds := r) hl d h

theorem flush_cons (p : Nat × P2) (l : List (Nat × P2)) (env : List AV) (tm : T AV) : flush (p :: l) env tm = flush l env (putP (nthA p.1 env) p.2 tm) := rfl

theorem tget_putP (x : AV) (n : Nat) (tm : T AV) (t : Nat) : tget (putP x (pathOf n) tm) t = if t = n then x else tget tm t := by
  unfold tget
  rw [get_putP_of]
  by_cases h : t = n
  · rw [if_pos h, if_pos h]
  · rw [if_neg h, if_neg h]

theorem flush_get {L : Lv} {nt : Nat} {env : List AV} : ∀ {ds : List (Option Tmp)} {i : Nat} {done : List Nat} {fl : List (Nat × P2)} (tm : T AV), flushOf L nt ds i done = some fl → ∀ t,
    tget (flush fl env tm) t = if (Nat.testBit L.live t && !memN done t) = true then (match posOf t ds i with | some j => nthA j env | none => tget tm t) else tget tm t
  | [], i, done, fl, tm, hf, t => by
    cases hf
    simp [flush, posOf]
  | none :: r, i, done, fl, tm, hf, t => flush_get (ds := r) tm hf t
  | some d :: r, i, done, fl, tm, hf, t => by
    simp only [flushOf] at hf
    cases hlt : Nat.blt d nt with
    | false => rw [hlt] at hf; cases hf
    | true =>
      rw [hlt] at hf
      dsimp only at hf
      cases hc : (Nat.testBit L.live d && !memN done d) with
      | false =>
        rw [hc] at hf
        rw [flush_get (ds := r) tm hf t]
        by_cases htd : t = d
        · subst htd
          rw [hc]
          simp
        · have : Nat.beq d t = false := by
            cases hb : Nat.beq d t with
            | false => rfl
            | true => exact absurd (Nat.eq_of_beq_eq_true hb).symm htd
          simp only [posOf, this]
      | true =>
        rw [hc] at hf
        dsimp only at hf
        rw [bnd_eq] at hf
        obtain ⟨l, hl, hf⟩ := hf
        cases hf
        rw [flush_cons, flush_get (ds := r) _ hl t]
        by_cases htd : t = d
        · subst htd
          have hm : memN (t :: done) t = true := (memN_iff _ _).2 (by simp)
          have hb : Nat.beq t t = true := Nat.beq_refl t
          rw [hm, hc]
          simp only [Bool.not_true, Bool.and_false, Bool.false_eq_true, if_false, if_true, tget_putP, posOf, hb]
        · have hb : Nat.beq d t = false := by
            cases hb : Nat.beq d t with
            | false => rfl
            | true => exact absurd (Nat.eq_of_beq_eq_true hb).symm htd
          have hm : memN (d :: done) t = memN done t := by
            cases hm : memN done t with
            | true => exact (memN_iff _ _).2 (by simp [(memN_iff _ _).1 hm])
            | false =>
              cases hm' : memN (d :: done) t with
              | false => rfl
              | true =>
                rcases List.mem_cons.1 ((memN_iff _ _).1 hm') with h | h
                · exact absurd h htd
                · rw [(memN_iff _ _).2 h] at hm; cases hm
          rw [hm, tget_putP, if_neg htd]
          simp only [posOf, hb]

theorem ERel.flush {L : Lv} {nt : Nat} {ds : List (Option Tmp)} {env : List AV} {tm : T AV} {tmps : Array Value} {fl : List (Nat × P2)} (he : ERel Y ρ L ds env tm tmps) (hf : flushOf L nt ds 0 [] = some fl) : TRel Y ρ L.live (flush fl env tm) tmps := by
  intro t ht
  rw [flush_get tm hf t]
  have hm : memN [] t = false := rfl
  rw [ht, hm]
  simp only [Bool.not_false, Bool.and_self, if_true]
  cases hp : posOf t ds 0 with
  | some j => exact he.here t j hp
  | none => exact he.beyond t hp ht

/-! ### What code leaves -/
/-- a frame -/
structure FR (Y : Sy) (ρ : Rho) (L : Lv) (nt : Nat) (tm : T AV) (df : List ADef) (a : Act) : Prop where
  tmps : TRel Y ρ L.live tm a.tmps
  size : a.tmps.size = nt
  defs : DefsRel Y ρ df a.defers

theorem FR.mono {ρ' : Rho} {L : Lv} {nt : Nat} {tm : T AV} {df : List ADef} {a : Act} (h : FR Y ρ L nt tm df a) (hle : ρ.le ρ') : FR Y ρ' L nt tm df a := ⟨h.tmps.mono hle, h.size, h.defs.mono hle⟩

def Leaves (Y : Sy) (E : Env) (ρ : Rho) (h : H) (w : World) (L : Lv) (nt : Nat) (k : KT) (a : Act) (w' : World) : Prop := ∃ ρ' h' tm df, Goes Y E ρ h w ρ' h' w' ∧ FR Y ρ' L nt tm df a ∧ k tm df h' = true

def PostC (Y : Sy) (E : Env) (ρ : Rho) (h : H) (w : World) (L : Lv) (nt : Nat) (kn : KT) (ke : Nat → KT) (kr : KT) : Exit → Act → World → Prop
  | .normal, a, w' => Leaves Y E ρ h w L nt kn a w'
  | .exit id, a, w' => Leaves Y E ρ h w L nt (ke id) a w'
  | .ret, a, w' => Leaves Y E ρ h w L nt kr a w'
  | _, _, _ => False

theorem Leaves.trans {ρ₁ : Rho} {h₁ : H} {w₁ : World} {L : Lv} {nt : Nat} {k : KT} {a : Act} {w' : World} (hr : Rel Y E ρ h w) (hg : Goes Y E ρ h w ρ₁ h₁ w₁) (hl : Leaves Y E ρ₁ h₁ w₁ L nt k a w') : Leaves Y E ρ h w L nt k a w' :=
  let ⟨ρ', h', tm, df, g, f, e⟩ := hl; ⟨ρ', h', tm, df, Goes.trans hr hg g, f, e⟩

theorem PostC.trans {ρ₁ : Rho} {h₁ : H} {w₁ : World} {L : Lv} {nt : Nat} {kn : KT} {ke : Nat → KT} {kr : KT} {e : Exit} {a : Act} {w' : World} (hr : Rel Y E ρ h w) (hg : Goes Y E ρ h w ρ₁ h₁ w₁) (hl : PostC Y E ρ₁ h₁ w₁ L nt kn ke kr e a w') : PostC Y E ρ h w L nt kn ke kr e a w' := by
  cases e with
  | normal => exact Leaves.trans hr hg hl
  | exit id => exact Leaves.trans hr hg hl
  | ret => exact Leaves.trans hr hg hl
  | goto _ => exact hl
  | panic _ => exact hl
  | outgrown => exact hl

/-- the round in which a frame is -/
def RoRel (ρ : Rho) : Option Nat → Option Nat → Prop
  | none, none => True
  | some l, some r => ∃ L, ρ l = some L ∧ L.blk = r
  | _, _ => False

theorem RoRel.mono {ρ' : Rho} (hle : ρ.le ρ') {a b : Option Nat} (h : RoRel ρ a b) : RoRel ρ' a b := by
  cases a <;> cases b <;> first | exact h | (obtain ⟨L, h1, h2⟩ := h; exact ⟨L, hle _ _ h1, h2⟩)

/-- what a piece of the evaluator is worth to a piece of code -/
def CodeOk (Y : Sy) (E : Env) (L : Lv) (nt : Nat) (c : Code) (K : KC) : Prop :=
  ∀ (rc : Rec) (ro cro : Option Nat) (ρ : Rho) (h : H) (w : World) (a : Act) (tm : T AV) (df : List ADef) (kn : KT) (ke : Nat → KT) (kr : KT) (n : Nat), RecOk Y E rc → Rel Y E ρ h w → Glob E ρ → RoRel ρ ro cro → FR Y ρ L nt tm df a →
    K.run rc ro tm df h kn ke kr = true → c.wpIn (fence cro) n E.P (PostC Y E ρ h w L nt kn ke kr) a w

theorem defersOf_all : ∀ (fs : List Bool) (i : Nat), defersOf fs i = [] → ∀ b ∈ fs, b = false
  | [], _, _, b, hb => by cases hb
  | true :: _, _, hd, _, _ => by cases hd
  | false :: fs, i, hd, b, hb => by
    rcases List.mem_cons.1 hb with rfl | hb
    · rfl
    · exact defersOf_all fs (i + 1) hd b hb

theorem region_ok (hE : EnvOk Y E) {L : Lv} (hng : L.ng = E.ng) {nt id : Nat} {ops : Array Oper} : CodeOk Y E L nt (.region id ops false) (cRegion E L nt ops.toList) := by
  intro rc ro cro ρ h w a tm df kn ke kr n hrc hr hg hro hf hk
  unfold cRegion at hk
  split at hk
  · rename_i fl hfl
    refine wpIn_region ?_
    have hlen : List.range ops.size = List.range' 0 ops.toList.length := by rw [List.range_eq_range']; simp
    rw [hlen]
    have hdl : ∀ o ∈ ops.toList, ∀ d, o.dst = some d → d < nt := by
      intro o ho d hd
      refine flushOf_lt hfl d ?_
      unfold dstsOf
      rw [List.mem_reverse, List.mem_map]
      exact ⟨o, ho, hd⟩
    split at hk
    · rename_i hnil
      dsimp only at hk
      refine ops_ok hE hrc hng ops.toList 0 [] [] [] [] ρ h w a rfl hr hg (ERel.start hf.tmps) hf.size hdl (.inr fun o ho => ?_) rfl hk ?_
      · refine defersOf_all _ _ hnil _ ?_
        unfold dfsOf
        rw [List.mem_reverse, List.mem_map]
        exact ⟨o, ho, rfl⟩
      · intro ρ' h' w' a' env' more hgo he hs hdr hdf hk'
        rw [List.append_nil] at he
        have : more = [] := by
          have := defersOf_nil _ 0 _ _ (by simpa [dfsOf] using hnil) (by simpa using hdr)
          simpa using this
        subst this
        exact ⟨ρ', h', _, df, hgo, ⟨he.flush hfl, hs, by rw [hdf]; exact hf.defs.mono hgo.le⟩, hk'⟩
    · dsimp only at hk
      cases ro with
      | some _ => cases hk
      | none =>
        cases cro with
        | some _ => exact hro.elim
        | none =>
          dsimp only at hk
          refine ops_ok hE hrc hng ops.toList 0 [] [] [] [] ρ h w a rfl hr hg (ERel.start hf.tmps) hf.size hdl (.inl rfl) rfl hk ?_
          intro ρ' h' w' a' env' more hgo he hs hdr hdf hk'
          rw [List.append_nil] at he
          obtain ⟨df', hp, hk'⟩ := optK_eq.1 hk'
          refine ⟨ρ', h', _, df', hgo, ⟨he.flush hfl, hs, ?_⟩, hk'⟩
          rw [hdf]
          have := pushDefs_ok (hf.defs.mono hgo.le) (dfsOf E ops.toList) [] env' more df' (by simpa [dfsOf] using hdr) (by simpa using hp)
          exact this
  · cases hk

end
end Go.AE
