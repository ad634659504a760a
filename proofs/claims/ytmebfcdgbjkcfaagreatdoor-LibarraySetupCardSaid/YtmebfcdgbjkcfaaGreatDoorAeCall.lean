/-
  Calls: the evaluator is sound.
-/
import Derived.Test.YtmebfcdgbjkcfaaGreatDoorAeCode
namespace Go.AE

section
variable {Y : Sy} {E : Env} {ρ : Rho} {h : H} {w : World}

theorem loadP_ptr {t : TypeId} {a v : AV} (hl : loadP E t a h = some v) : ∃ b o, a = .ptr b o := by
  unfold loadP at hl
  cases hd : E.und t with
  | none => rw [hd] at hl; cases hl
  | some d =>
    rw [hd] at hl
    dsimp only at hl
    cases hag : isAggD d with
    | false =>
      rw [hag] at hl
      dsimp only at hl
      cases hp : asP a with
      | none => rw [hp] at hl; cases hl
      | some p => exact ⟨_, _, asP_eq hp⟩
    | true =>
      rw [hag] at hl
      dsimp only at hl
      cases hs : E.size t with
      | none => rw [hs] at hl; cases hl
      | some n =>
        rw [hs] at hl
        dsimp only at hl
        cases hp : asP a with
        | none => rw [hp] at hl; cases hl
        | some p => exact ⟨_, _, asP_eq hp⟩

def resOf (tmps : Array Value) : ResultVar → Sem Value
  | .tmp t => pure (tmps.getD t undef)
  | .cell a t => do loadVar t (← asAddr (tmps.getD a undef))

theorem results_list (hE : EnvOk Y E) (hr : Rel Y E ρ h w) {L : Lv} {tm : T AV} {tmps : Array Value} (ht : TRel Y ρ L.live tm tmps) : ∀ {rs : List ResultVar} {l : List AV}, resultsA E L h tm rs = some l →
    ∃ cs, (rs.mapM (resOf tmps)).run E.P w = .ok cs w ∧ concs Y ρ l = some cs := by
  intro rs
  induction rs with
  | nil => intro l hl; cases hl; exact ⟨[], by simp, rfl⟩
  | cons r rs ih =>
    intro l hl
    cases r with
    | tmp t =>
      simp only [resultsA] at hl
      cases hb : Nat.testBit L.live t with
      | false => rw [hb] at hl; cases hl
      | true =>
        rw [hb] at hl
        dsimp only at hl
        rw [bnd_eq] at hl
        obtain ⟨l', h1, h2⟩ := hl
        cases h2
        obtain ⟨cs, k1, k2⟩ := ih h1
        refine ⟨tmps.getD t undef :: cs, ?_, concs_cons.2 ⟨_, _, ht t hb, k2, rfl⟩⟩
        rw [List.mapM_cons]
        simp only [resOf, Sem.run_bind, Sem.run_pure, Result.andThen_ok, k1]
    | cell a t =>
      simp only [resultsA] at hl
      cases hb : Nat.testBit L.live a with
      | false => rw [hb] at hl; cases hl
      | true =>
        rw [hb] at hl
        dsimp only at hl
        rw [bnd_eq] at hl
        obtain ⟨v, h0, hl⟩ := hl
        rw [bnd_eq] at hl
        obtain ⟨l', h1, h2⟩ := hl
        cases h2
        obtain ⟨cs, k1, k2⟩ := ih h1
        have hta := ht a hb
        obtain ⟨cv, e1, e2⟩ := load_ok hE hr h0 hta
        obtain ⟨b, o, hp⟩ := loadP_ptr h0
        rw [hp] at hta
        obtain ⟨L', hL', e3⟩ := conc_ptr hta
        rw [e3] at e1
        refine ⟨cv :: cs, ?_, concs_cons.2 ⟨_, _, e2, k2, rfl⟩⟩
        have e4 : (loadVar t (L'.addr o)).run E.P w = .ok cv w := by
          simpa [Instr.loadAt, Instr.sureAddr] using e1
        rw [List.mapM_cons]
        simp only [resOf, e3, asAddr, Sem.run_bind, Sem.run_pure, Result.andThen_ok, e4, k1]

theorem results_ok (hE : EnvOk Y E) (hr : Rel Y E ρ h w) {L : Lv} {tm : T AV} {tmps : Array Value} (ht : TRel Y ρ L.live tm tmps) {fn : Func} {l : List AV} (hl : resultsA E L h tm fn.results.toList = some l) :
    ∃ v, (results fn tmps).run E.P w = .ok v w ∧ conc Y ρ (oneOr l) = some v := by
  obtain ⟨cs, h1, h2⟩ := results_list hE hr ht hl
  have hm : (fn.results.mapM (resOf tmps)).run E.P w = .ok cs.toArray w := by
    rw [Array.mapM_eq_mapM_toList]
    simp only [Sem.run_map, h1]
    rfl
  have hres : results fn tmps = (do
      let vs ← fn.results.mapM (resOf tmps)
      pure (if h : vs.size = 1 then vs[0] else .tuple vs)) := by
    unfold results
    congr 1
  refine ⟨if h : cs.toArray.size = 1 then cs.toArray[0] else .tuple cs.toArray, ?_, ?_⟩
  · rw [hres]
    simp only [Sem.run_bind, hm, Result.andThen_ok, Sem.run_pure]
  · have hlen := concs_length h2
    unfold oneOr
    split
    · rename_i v
      obtain ⟨cv, cr, k1, k2, rfl⟩ := concs_cons.1 h2
      rw [concs_nil] at k2
      subst k2
      simpa using k1
    · rename_i hne
      have : cs.length ≠ 1 := by
        intro h1
        rw [hlen] at h1
        obtain ⟨v, e⟩ := List.length_eq_one_iff.1 h1
        exact hne v e
      have h3 : ¬ cs.toArray.size = 1 := by simpa using this
      rw [dif_neg h3]
      simp [conc, h2]

theorem leaveK_cons (rc : Rec) (d : ADef) (df : List ADef) (h : H) (k : H → Bool) : leaveK rc (d :: df) h k = (match d with
      | .mark b =>
        (match h.get b with
         | some (.defs false) => optK (h.upd b (.defs true)) fun h' => leaveK rc df h' k
         | _ => false)
      | .call fn cap args =>
        (match fn with
         | .func f => rc (.dfn f) (args ++ cap) h fun _ h' => leaveK rc df h' k
         | _ => false)) := rfl

theorem leave_ok {rc : Rec} (hrc : RecOk Y E rc) {fn : Func} {tmps : Array Value} {R : Ending → World → Prop} {n : Nat} {k : H → Bool} : ∀ (df : List ADef) (ds : List Deferred) (ρ : Rho) (h : H) (w : World), DefsRel Y ρ df ds → Rel Y E ρ h w → Glob E ρ → leaveK rc df h k = true →
    (∀ ρ' h' w', Goes Y E ρ h w ρ' h' w' → k h' = true → LeavesIn (fence none) n E.P fn tmps R [] .returning w') → LeavesInM (fence none) n E.P fn tmps R ds .returning w := by
  intro df
  induction df with
  | nil =>
    intro ds ρ h w hd hr hg hk hend
    cases ds with
    | nil => exact hend ρ h w (Goes.refl hr) hk
    | cons _ _ => exact hd.elim
  | cons d df ih =>
    intro ds ρ h w hd hr hg hk hend
    rw [leaveK_cons] at hk
    cases d with
    | call fn cap args =>
      cases ds with
      | nil => exact hd.elim
      | cons x ds =>
        obtain ⟨⟨fn', ccap, cargs, h1, h2, h3, h4, h5⟩, hd'⟩ := hd
        dsimp only at hk
        split at hk
        · rename_i f
          cases h1
          have hall : concs Y ρ (args ++ cap) = some (cargs ++ ccap) := concs_append.2 ⟨_, _, h3, h2, rfl⟩
          obtain ⟨e1, e2⟩ := hrc (.dfn f) _ h _ ρ w _ hr hg hall hk
          refine ⟨(fun h => by cases h), .inr ⟨(fun h => by cases h), .func f, ccap.toArray, f, (cargs ++ ccap).toArray, h4, ?_, fun _ _ => trivial, ?_⟩⟩
          · rw [h4, h5]
            have e : cargs.toArray ++ ccap.toArray = (cargs ++ ccap).toArray := by simp
            simp only [invoke, e, e1]
          · refine CallsDIn.mono (e2 (n - 1) .returning) fun e u' w' he => ?_
            obtain ⟨rfl, he⟩ := he
            cases e with
            | panicked c => exact he.elim
            | outgrown => exact he.elim
            | returned v =>
              obtain ⟨ρ', h', av, hgo, _, hk'⟩ := he
              exact ih ds ρ' h' w' (hd'.mono hgo.le) hgo.rel (hg.mono hgo.le) hk' fun ρ'' h'' w'' hgo' hk'' => hend ρ'' h'' w'' (Goes.trans hr hgo hgo') hk''
        · cases hk
    | mark b =>
      cases ds with
      | nil => exact hd.elim
      | cons x ds =>
        obtain ⟨⟨L, hL, hx⟩, hd'⟩ := hd
        dsimp only at hk
        split at hk
        · rename_i hb
          obtain ⟨h', hu, hk⟩ := optK_eq.1 hk
          obtain ⟨L', ob, h1, h2, e⟩ := hr.obj b _ hb rfl
          rw [hL] at h1
          cases h1
          have e' : ob = .deferred (some []) := e
          subst e'
          have hgo := Goes.put (ob := .deferred none) hr hb rfl hL hu rfl
          refine ⟨(fun h => by cases h), .inl ⟨L.blk, _, hx, ?_, ih ds ρ h' _ hd' hgo.rel hg hk fun ρ'' h'' w'' hgo' hk' => hend ρ'' h'' w'' (Goes.trans hr hgo hgo') hk'⟩⟩
          simp only [Instr.takeDeferred, Sem.run_bind, run_getObj' h2 (fun _ _ _ h => by cases h), Result.andThen_ok, run_setObj' h2 (fun _ _ _ h => by cases h), Sem.run_pure]
        · cases hk

theorem enter_tmps {args : List AV} {cargs : List Value} {nt : Nat} (ha : concs Y ρ args = some cargs) (L : Nat) : TRel Y ρ L (ofListV args) (cargs.toArray ++ Array.replicate (nt - cargs.toArray.size) undef) := by
  intro t _
  have hlen := concs_length ha
  unfold tget
  rw [get_ofListV, Array.getD_eq_getD_getElem?]
  rcases Nat.lt_or_ge t args.length with h | h
  · rw [List.getElem?_eq_getElem h]
    obtain ⟨cv, h1, h2⟩ := concs_getElem ha t _ (List.getElem?_eq_getElem h)
    rw [Array.getElem?_append_left (by simp; omega)]
    simp only [List.getElem?_toArray, h2, Option.getD_some]
    exact h1
  · rw [List.getElem?_eq_none h]
    have : (cargs.toArray ++ Array.replicate (nt - cargs.toArray.size) undef)[t]?.getD undef = undef := by
      rw [Array.getElem?_append_right (by simp; omega), Array.getElem?_replicate]
      split <;> rfl
    rw [this]
    rfl

theorem fun_ok (hE : EnvOk Y E) {lf : Nat} (hdraw : ∀ (L : Lv) nt, L.ng = E.ng → ∀ id ops, CodeOk Y E L nt (.region id ops true) (cDraw E L nt ops.toList)) {rc : Rec} (hrc : RecOk Y E rc) (hr : Rel Y E ρ h w) (hg : Glob E ρ) {f : FuncId} {args : List AV} {cargs : List Value} {k : KV} (ha : concs Y ρ args = some cargs)
    (hk : (cFun E lf f).run rc args h k = true) :
    (callFunc f cargs.toArray).run E.P w = .ok (.enter f cargs.toArray) w ∧ ∀ n, CallsIn Fence.wide n E.P f cargs.toArray w (PostV Y E ρ h w k) := by
  unfold cFun at hk
  cases hf : E.ft.get f with
  | none => rw [hf] at hk; cases hk
  | some fn =>
    rw [hf] at hk
    dsimp only at hk
    cases hb : fn.body with
    | none => rw [hb] at hk; cases hk
    | some c =>
      rw [hb] at hk
      dsimp only at hk
      have hfP := hE.ft f fn hf
      have hnm := hE.named f fn hf (by rw [hb]; rfl)
      refine ⟨?_, fun n => ?_⟩
      · have hnm' : ¬ fn.name = "runtime.NumGoroutine" := by simpa using hnm
        simp [callFunc, hfP, hnm', hb]
      · cases hle : Nat.ble args.length fn.ntmps with
        | false => rw [hle] at hk; cases hk
        | true =>
          rw [hle] at hk
          dsimp only at hk
          have hle' := Nat.le_of_ble_eq_true hle
          have hlen := concs_length ha
          refine callsIn_of_wp_marks (F := fence none) hfP hb trivial ?_
          have hL : ∀ fd, E.ft.get f = some fd → (lvOf E fn).live = liveOf fd := fun fd hfd => by rw [hf] at hfd; cases hfd; rfl
          have hcode := cCode_ok (Y := Y) (lf := lf) (L := lvOf E fn) (nt := fn.ntmps) (fn := f) hE rfl hL (hdraw _ _ rfl) c
          refine wpIn_mono (hcode rc none none ρ h w _ (ofListV args) [] _ _ _ n hrc hr hg trivial ⟨enter_tmps ha _, by simp; omega, trivial⟩ hk) fun e a' w' hq => ?_
          have fin : Leaves Y E ρ h w (lvOf E fn) fn.ntmps (fun tm df h => leaveK rc df h fun h => optK (resultsA E (lvOf E fn) h tm fn.results.toList) fun l => k (oneOr l) h) a' w' →
              LeavesInM (fence none) n E.P fn a'.tmps (PostV Y E ρ h w k) a'.defers .returning w' := by
            rintro ⟨ρ', h', tm, df, hgo, hfr, hk'⟩
            refine leave_ok hrc df a'.defers ρ' h' w' hfr.defs hgo.rel (hg.mono hgo.le) hk' fun ρ'' h'' w'' hgo' hk'' => ?_
            obtain ⟨l, hl, hk''⟩ := optK_eq.1 hk''
            obtain ⟨v, e1, e2⟩ := results_ok hE hgo'.rel (hfr.tmps.mono hgo'.le) hl
            exact ⟨v, e1, ρ'', h'', oneOr l, Goes.trans hr hgo hgo', e2, hk''⟩
          cases e with
          | normal => exact fin hq
          | ret => exact fin hq
          | exit id =>
            obtain ⟨_, _, _, _, _, _, hf⟩ := hq
            cases hf
          | goto l => exact hq.elim
          | panic ch => exact hq.elim
          | outgrown => exact hq.elim

/-- a function that is called by a 'defer' -/
theorem funD_ok (hE : EnvOk Y E) {lf : Nat} (hdraw : ∀ (L : Lv) nt, L.ng = E.ng → ∀ id ops, CodeOk Y E L nt (.region id ops true) (cDraw E L nt ops.toList)) {rc : Rec} (hrc : RecOk Y E rc) (hr : Rel Y E ρ h w) (hg : Glob E ρ) {f : FuncId} {args : List AV} {cargs : List Value} {k : KV} (ha : concs Y ρ args = some cargs)
    (hk : (cFunD E lf f).run rc args h k = true) :
    (callFunc f cargs.toArray).run E.P w = .ok (.enter f cargs.toArray) w ∧ ∀ n u, CallsDIn Fence.wide n E.P f cargs.toArray u w fun e u' w' => u' = u ∧ PostV Y E ρ h w k e w' := by
  unfold cFunD at hk
  cases hf : E.ft.get f with
  | none => rw [hf] at hk; cases hk
  | some fn =>
    rw [hf] at hk
    dsimp only at hk
    cases hb : fn.body with
    | none => rw [hb] at hk; cases hk
    | some c =>
      rw [hb] at hk
      dsimp only at hk
      have hfP := hE.ft f fn hf
      have hnm := hE.named f fn hf (by rw [hb]; rfl)
      refine ⟨?_, fun n u => ?_⟩
      · have hnm' : ¬ fn.name = "runtime.NumGoroutine" := by simpa using hnm
        simp [callFunc, hfP, hnm', hb]
      · cases hle : Nat.ble args.length fn.ntmps with
        | false => rw [hle] at hk; cases hk
        | true =>
          rw [hle] at hk
          dsimp only at hk
          have hle' := Nat.le_of_ble_eq_true hle
          have hlen := concs_length ha
          refine callsDIn_of_wp (F := fence none) hfP hb trivial ?_
          have hL : ∀ fd, E.ft.get f = some fd → (lvOf E fn).live = liveOf fd := fun fd hfd => by rw [hf] at hfd; cases hfd; rfl
          have hcode := cCode_ok (Y := Y) (lf := lf) (L := lvOf E fn) (nt := fn.ntmps) (fn := f) hE rfl hL (hdraw _ _ rfl) c
          refine wpIn_mono (hcode rc none none ρ h w _ (ofListV args) [] _ _ _ n hrc hr hg trivial ⟨enter_tmps ha _, by simp; omega, trivial⟩ hk) fun e a' w' hq => ?_
          have fin : Leaves Y E ρ h w (lvOf E fn) fn.ntmps (fun tm df h => match df with | [] => optK (resultsA E (lvOf E fn) h tm fn.results.toList) fun l => k (oneOr l) h | _ => false) a' w' →
              a'.defers = [] ∧ ∃ v, (results fn a'.tmps).run E.P w' = .ok v w' ∧ PostV Y E ρ h w k (.returned v) w' := by
            rintro ⟨ρ', h', tm, df, hgo, hfr, hk'⟩
            cases df with
            | cons _ _ => cases hk'
            | nil =>
              have hd : a'.defers = [] := by
                have := hfr.defs
                cases hde : a'.defers with
                | nil => rfl
                | cons x y => rw [hde] at this; exact this.elim
              obtain ⟨l, hl, hk'⟩ := optK_eq.1 hk'
              obtain ⟨v, e1, e2⟩ := results_ok hE hgo.rel hfr.tmps hl
              exact ⟨hd, v, e1, ρ', h', oneOr l, hgo, e2, hk'⟩
          cases e with
          | normal => exact fin hq
          | ret => exact fin hq
          | exit id =>
            obtain ⟨_, _, _, _, _, _, hf⟩ := hq
            cases hf
          | goto l => exact hq.elim
          | panic ch => exact hq.elim
          | outgrown => exact hq.elim

/-! ### Rounds -/
theorem setParams_ok {L nt : Nat} : ∀ (ps : List Tmp) (args : List AV) (cargs : List Value) (tm tm' : T AV) (tmps : Array Value), concs Y ρ args = some cargs → TRel Y ρ L tm tmps → tmps.size = nt → setParams nt ps args tm = some tm' →
    ps.length = cargs.length ∧ TRel Y ρ L tm' ((ps.zip cargs).foldl (fun tmps p => tmps.setIfInBounds p.1 p.2) tmps) ∧ ((ps.zip cargs).foldl (fun (tmps : Array Value) p => tmps.setIfInBounds p.1 p.2) tmps).size = nt := by
  intro ps
  induction ps with
  | nil =>
    intro args cargs tm tm' tmps ha ht hs hp
    cases args with
    | nil => cases hp; rw [concs_nil] at ha; subst ha; exact ⟨rfl, ht, hs⟩
    | cons _ _ => cases hp
  | cons t ps ih =>
    intro args cargs tm tm' tmps ha ht hs hp
    cases args with
    | nil => cases hp
    | cons v args =>
      obtain ⟨cv, cr, h1, h2, rfl⟩ := concs_cons.1 ha
      simp only [setParams] at hp
      cases hlt : Nat.blt t nt with
      | false => rw [hlt] at hp; cases hp
      | true =>
        rw [hlt] at hp
        dsimp only at hp
        have hlt' := (blt_iff _ _).1 hlt
        obtain ⟨k1, k2, k3⟩ := ih args cr (putV tm t v) tm' (tmps.setIfInBounds t cv) h2 (fun u hu => by
          have h0 := ht u hu
          unfold tget at h0 ⊢
          rw [get_putV, Array.getD_eq_getD_getElem?, Array.getElem?_setIfInBounds]
          rw [Array.getD_eq_getD_getElem?] at h0
          by_cases hut : u = t
          · subst hut
            rw [if_pos rfl, if_pos rfl, if_pos (by omega)]
            exact h1
          · rw [if_neg hut, if_neg (fun e => hut e.symm)]
            exact h0) (by simpa using hs) hp
        refine ⟨by simp [k1], ?_, ?_⟩
        · simpa using k2
        · simpa using k3

theorem endRound_ok (hr : Rel Y E ρ h w) {l : Nat} {L : Loc} (hL : ρ l = some L) {jump : Option Code} {df : List ADef} {k : KV} (hk : endRoundK l jump df h k = true) :
    ∃ v w' h' av, (Instr.endRound L.blk jump).run E.P w = .ok v w' ∧ Goes Y E ρ h w ρ h' w' ∧ conc Y ρ av = some v ∧ k av h' = true := by
  unfold endRoundK at hk
  split at hk
  · rename_i s pend fn lt nt ps as bd d hb
    obtain ⟨L', ob, h1, h2, r, rfl, g1, g2, g3, g4, g5, g6, g7, g8⟩ := hr.obj l _ hb rfl
    rw [hL] at h1
    cases h1
    have hgl := getLoop_run (P := E.P) h2
    split at hk
    · obtain ⟨h', hu, hk⟩ := optK_eq.1 hk
      refine ⟨.bool true, _, h', .bool true, ?_, Goes.put (ob := .loop { r with state := .ready, pending := none }) hr hb rfl hL hu ⟨_, rfl, rfl, rfl, g3, g4, g5, g6, g7, g8⟩, rfl, hk⟩
      simp only [Instr.endRound, Sem.run_bind, hgl, Result.andThen_ok, run_setObj' h2 (fun _ _ _ h => by cases h), Sem.run_pure]
      rfl
    · rename_i c
      obtain ⟨h', hu, hk⟩ := optK_eq.1 hk
      refine ⟨.bool false, _, h', .bool false, ?_, Goes.put (ob := .loop { r with state := .done, pending := some c }) hr hb rfl hL hu ⟨_, rfl, rfl, rfl, g3, g4, g5, g6, g7, g8⟩, rfl, hk⟩
      simp only [Instr.endRound, Sem.run_bind, hgl, Result.andThen_ok, run_setObj' h2 (fun _ _ _ h => by cases h), Sem.run_pure]
      rfl
  · cases hk

theorem yield_ok (hE : EnvOk Y E) {lf : Nat} (hdraw : ∀ (L : Lv) nt, L.ng = E.ng → ∀ id ops, CodeOk Y E L nt (.region id ops true) (cDraw E L nt ops.toList)) {rc : Rec} (hrc : RecOk Y E rc) (hr : Rel Y E ρ h w) (hg : Glob E ρ) {l : Nat} {args : List AV} {cargs : List Value} {k : KV} (ha : concs Y ρ args = some cargs)
    (hk : yieldK E lf rc l args h k = true) :
    ∃ L f tmps as b, ρ l = some L ∧ (Instr.yield L.blk cargs.toArray).run E.P w = .ok (.round L.blk f tmps as b) w ∧ ∀ n, RoundIn Fence.wide n E.P L.blk f tmps as b w (PostV Y E ρ h w k) := by
  unfold yieldK at hk
  split at hk
  · rename_i s pend fn lt nt ps as bd d hb
    obtain ⟨L, ob, h1, h2, r, rfl, g1, g2, g3, g4, g5, g6, g7, g8⟩ := hr.obj l _ hb rfl
    obtain ⟨fd, hfd, hk⟩ := optK_eq.1 hk
    obtain ⟨tm, htm, hk⟩ := optK_eq.1 hk
    have hgl := getLoop_run (P := E.P) h2
    obtain ⟨p1, p2, p3⟩ := setParams_ok ps args cargs lt tm r.tmps ha (g8 fd hfd) g6 htm
    have hz : (r.params.zip cargs.toArray).foldl (fun tmps (p : Tmp × Value) => tmps.setIfInBounds p.1 p.2) r.tmps = (ps.zip cargs).foldl (fun tmps p => tmps.setIfInBounds p.1 p.2) r.tmps := by
      rw [← Array.foldl_toList, Array.toList_zip, g3]
    refine ⟨L, r.fn, (ps.zip cargs).foldl (fun tmps p => tmps.setIfInBounds p.1 p.2) r.tmps, as, bd, h1, ?_, fun n => ?_⟩
    · have hsz : ¬ (cargs.toArray.size ≠ r.params.size) := by
        rw [← Array.length_toList (xs := r.params), g3, p1]
        simp
      simp only [Instr.yield, Sem.run_bind, hgl, Result.andThen_ok, Sem.run_ite, hsz, if_false, Sem.run_pure, g4, g5]
      rw [← hz]
    · refine roundIn_of_wpIn (F := Fence.wide) trivial ?_
      have hL : ∀ fd', E.ft.get fn = some fd' → (lvOf E fd).live = liveOf fd' := fun fd' hfd' => by rw [hfd] at hfd'; cases hfd'; rfl
      have hcode : ∀ c, CodeOk Y E (lvOf E fd) nt c (cCode E lf (lvOf E fd) nt fn c) := fun c => cCode_ok (lf := lf) (nt := nt) (fn := fn) hE rfl hL (hdraw _ _ rfl) c
      have hwp := hcode as rc (some l) (some L.blk) ρ h w { tmps := (ps.zip cargs).foldl (fun tmps p => tmps.setIfInBounds p.1 p.2) r.tmps, defers := [] } tm [] _ _ _ n hrc hr hg ⟨L, h1, rfl⟩ ⟨p2, p3, trivial⟩ hk
      refine wpIn_mono hwp fun e a' w' hq => ?_
      cases e with
      | normal =>
        obtain ⟨ρ₁, h₁, tm₁, df₁, hgo, hfr, hk₁⟩ := hq
        dsimp only at hk₁
        split at hk₁
        · rename_i pend' fn' lt' nt' ps' as' bd' d' hb'
          obtain ⟨h₂, hu, hk₁⟩ := optK_eq.1 hk₁
          obtain ⟨L', ob, q1, q2, r', rfl, q3, q4, q5, q6, q7, q8, q9, q10⟩ := hgo.rel.obj l _ hb' rfl
          have hL1 := hgo.le _ _ h1
          rw [hL1] at q1
          cases q1
          have hgl' := getLoop_run (P := E.P) q2
          have hgo2 := Goes.put (ob := .loop { r' with state := .busy }) hgo.rel hb' rfl hL1 hu ⟨_, rfl, rfl, q4, q5, q6, q7, q8, q9, q10⟩
          refine ⟨putW w' L.blk (.loop { r' with state := .busy }), ?_, ?_⟩
          · simp only [Instr.beginRound, Sem.run_bind, hgl', Result.andThen_ok, run_setObj' q2 (fun _ _ _ h => by cases h), q3, Sem.run_pure]
          · have hall := Goes.trans hr hgo hgo2
            have hwp2 := hcode bd rc (some l) (some L.blk) ρ₁ h₂ (putW w' L.blk (.loop { r' with state := .busy })) a' tm₁ [] _ _ _ n hrc hgo2.rel (hg.mono hgo.le) ⟨L, hL1, rfl⟩ hfr hk₁
            refine wpIn_mono hwp2 fun e a'' w'' hq => ?_
            have fin : ∀ (jump : Option Code) (df : List ADef) (h₃ : H) (ρ₃ : Rho), Goes Y E ρ₁ h₂ (putW w' L.blk (.loop { r' with state := .busy })) ρ₃ h₃ w'' → endRoundK l jump df h₃ k = true → ∃ v w₄, (Instr.endRound L.blk jump).run E.P w'' = .ok v w₄ ∧ PostV Y E ρ h w k (.returned v) w₄ := by
              intro jump df h₃ ρ₃ hgo3 hk3
              obtain ⟨v, w₄, h₄, av, c1, c2, c3, c4⟩ := endRound_ok hgo3.rel (hgo3.le _ _ hL1) hk3
              exact ⟨v, w₄, c1, ρ₃, h₄, av, Goes.trans hr hall (Goes.trans hgo2.rel hgo3 c2), c3, c4⟩
            cases e with
            | normal => obtain ⟨ρ₃, h₃, _, df, hgo3, _, hk3⟩ := hq; exact fin none df h₃ ρ₃ hgo3 hk3
            | ret => obtain ⟨ρ₃, h₃, _, df, hgo3, _, hk3⟩ := hq; exact fin (some .ret) df h₃ ρ₃ hgo3 hk3
            | exit id => obtain ⟨ρ₃, h₃, _, df, hgo3, _, hk3⟩ := hq; exact fin (some (.exit id)) df h₃ ρ₃ hgo3 hk3
            | goto l => exact hq.elim
            | panic ch => exact hq.elim
            | outgrown => exact hq.elim
        · cases hk₁
      | ret => obtain ⟨_, _, _, _, _, _, hf⟩ := hq; cases hf
      | exit id => obtain ⟨_, _, _, _, _, _, hf⟩ := hq; cases hf
      | goto l => exact hq.elim
      | panic ch => exact hq.elim
      | outgrown => exact hq.elim
  · cases hk

theorem evGo_ok_of (hE : EnvOk Y E) (hdraw : ∀ (L : Lv) nt, L.ng = E.ng → ∀ id ops, CodeOk Y E L nt (.region id ops true) (cDraw E L nt ops.toList)) (lf : Nat) : ∀ n, RecOk Y E (evGo E lf n)
  | 0 => fun _ _ _ _ _ _ _ _ _ _ hk => by cases hk
  | n + 1 => fun tgt args h k ρ w cargs hr hg ha hk => by
    have ih := evGo_ok_of hE hdraw lf n
    cases tgt with
    | fn f => exact fun_ok hE hdraw ih hr hg ha hk
    | yield l => exact yield_ok hE hdraw ih hr hg ha hk
    | dfn f => exact funD_ok hE hdraw ih hr hg ha hk

end
end Go.AE
