/-
  Code.
-/
import Derived.Test.YtmebfcdgbjkcfaaGreatDoorAeReg
namespace Go.AE

section
variable {Y : Sy} {E : Env} {ρ : Rho} {h : H} {w : World}

theorem fence_room (ro : Option Nat) (n : Nat) : (fence ro).room n := fun _ h => by cases h

theorem loop_ok {L : Lv} {nt : Nat} {c : Code} {K : KC} (hc : CodeOk Y E L nt c K) (lf : Nat) : CodeOk Y E L nt (.loop c) ⟨fun rc ro tm df h _ ke kr => loopK K rc ro ke kr lf tm df h⟩ := by
  intro rc ro cro ρ h w a tm df kn ke kr n hrc hr hg hro hf hk b k cs hbro hb hroom
  dsimp only at hk
  have key : ∀ (j : Nat) (ρ' : Rho) (h' : H) (w' : World) (a : Act) (tm : T AV) (df : List ADef), Goes Y E ρ h w ρ' h' w' → FR Y ρ' L nt tm df a → loopK K rc ro ke kr j tm df h' = true →
      ∃ e a' w'', PostC Y E ρ h w L nt kn ke kr e a' w'' ∧ ArrivesIn (Machine.fenced E.P (fence cro)) E.P (lone (b.atR a (.code c :: .inLoop c :: k)) cs w') b k cs e a' w'' := by
    intro j
    induction j with
    | zero => intro ρ' h' w' a tm df _ _ hk; cases hk
    | succ j ih =>
      intro ρ' h' w' a tm df hgo hf hk
      have hk' : K.run rc ro tm df h' (loopK K rc ro ke kr j) ke kr = true := hk
      have hw := hc rc ro cro ρ' h' w' a tm df _ ke kr n hrc hgo.rel (hg.mono hgo.le) (hro.mono hgo.le) hf hk'
      obtain ⟨e, a₁, w₁, hq, harr⟩ := hw b (.inLoop c :: k) cs hbro hb hroom
      cases e with
      | normal =>
        obtain ⟨ρ₁, h₁, tm₁, df₁, g₁, f₁, k₁⟩ := hq
        obtain ⟨e₂, a₂, w₂, hq₂, harr₂⟩ := ih ρ₁ h₁ w₁ a₁ tm₁ df₁ (Goes.trans hr hgo g₁) f₁ k₁
        exact ⟨e₂, a₂, w₂, hq₂, .of_steps (StepsIn.trans harr (.one (fenced_calm hb hroom rfl) stepR_inLoop)) harr₂⟩
      | exit id => exact ⟨.exit id, a₁, w₁, Leaves.trans hr hgo hq, .pass (x := .inLoop c) rfl (fun _ _ => .inl (by simp)) harr⟩
      | ret => exact ⟨.ret, a₁, w₁, Leaves.trans hr hgo hq, .pass (x := .inLoop c) rfl (fun _ _ => .inl (by simp)) harr⟩
      | goto l => exact hq.elim
      | panic ch => exact hq.elim
      | outgrown => exact hq.elim
  obtain ⟨e, a', w', hq, harr⟩ := key lf ρ h w a tm df (Goes.refl hr) hf hk
  exact ⟨e, a', w', hq, .of_steps (.one (fenced_calm hb hroom rfl) stepR_loop) harr⟩

theorem seq_ok {L : Lv} {nt : Nat} {x y : Code} {K M : KC} (hx : CodeOk Y E L nt x K) (hy : CodeOk Y E L nt y M) :
    CodeOk Y E L nt (.seq x y) ⟨fun rc ro tm df h kn ke kr => K.run rc ro tm df h (fun tm df h => M.run rc ro tm df h kn ke kr) ke kr⟩ := by
  intro rc ro cro ρ h w a tm df kn ke kr n hrc hr hg hro hf hk
  refine wpIn_seq (wpIn_mono (hx rc ro cro ρ h w a tm df _ ke kr n hrc hr hg hro hf hk) fun e a' w' hq => ?_)
  cases e with
  | normal =>
    obtain ⟨ρ₁, h₁, tm₁, df₁, g₁, f₁, k₁⟩ := hq
    exact wpIn_mono (hy rc ro cro ρ₁ h₁ w' a' tm₁ df₁ kn ke kr n hrc g₁.rel (hg.mono g₁.le) (hro.mono g₁.le) f₁ k₁) fun e a w h => PostC.trans hr g₁ h
  | exit id => exact hq
  | ret => exact hq
  | goto l => exact hq.elim
  | panic ch => exact hq.elim
  | outgrown => exact hq.elim

theorem condK_eq {v : AV} {x y : Bool} (h : condK v x y = true) : (v = .bool true ∧ x = true) ∨ (v = .bool false ∧ y = true) := by
  unfold condK at h
  cases hv : asB v with
  | none => rw [hv] at h; cases h
  | some b =>
    rw [hv] at h
    have := asB_eq hv
    cases b with
    | true => exact .inl ⟨this, h⟩
    | false => exact .inr ⟨this, h⟩

theorem cond_ok {L : Lv} (hng : L.ng = E.ng) {nt : Nat} {c : Operand} {x y : Code} {K M : KC} (hx : CodeOk Y E L nt x K) (hy : CodeOk Y E L nt y M) :
    CodeOk Y E L nt (.cond c x y) (match cX L [] c with
      | some X => ⟨fun rc ro tm df h kn ke kr => condK (X tm []) (K.run rc ro tm df h kn ke kr) (M.run rc ro tm df h kn ke kr)⟩
      | none => badC) := by
  intro rc ro cro ρ h w a tm df kn ke kr n hrc hr hg hro hf hk
  cases hX : cX L [] c with
  | none => rw [hX] at hk; cases hk
  | some X =>
    rw [hX] at hk
    have hv := cX_ok hX (ERel.start hf.tmps) hg hng
    rcases condK_eq hk with ⟨e, hk⟩ | ⟨e, hk⟩
    · rw [e] at hv
      exact wpIn_cond_true (Option.some.inj hv).symm (hx rc ro cro ρ h w a tm df kn ke kr n hrc hr hg hro hf hk)
    · rw [e] at hv
      exact wpIn_cond_false (Option.some.inj hv).symm (hy rc ro cro ρ h w a tm df kn ke kr n hrc hr hg hro hf hk)

theorem block_ok {L : Lv} {nt id : Nat} {c : Code} {K : KC} (hc : CodeOk Y E L nt c K) :
    CodeOk Y E L nt (.block id c) ⟨fun rc ro tm df h kn ke kr => K.run rc ro tm df h kn (fun i => match Nat.beq i id with | true => kn | false => ke i) kr⟩ := by
  intro rc ro cro ρ h w a tm df kn ke kr n hrc hr hg hro hf hk
  refine wpIn_block (wpIn_mono (hc rc ro cro ρ h w a tm df kn _ kr n hrc hr hg hro hf hk) fun e a' w' hq => ?_)
  cases e with
  | normal => exact hq
  | exit i =>
    simp only [Exit.inBlock]
    by_cases hi : i = id
    · subst hi
      rw [if_pos rfl]
      have e : PostC Y E ρ h w L nt kn (fun i_1 => match Nat.beq i_1 i with | true => kn | false => ke i_1) kr (.exit i) a' w' = Leaves Y E ρ h w L nt (match Nat.beq i i with | true => kn | false => ke i) a' w' := rfl
      rw [e, Nat.beq_refl] at hq
      exact hq
    · rw [if_neg hi]
      have e : PostC Y E ρ h w L nt kn (fun i_1 => match Nat.beq i_1 id with | true => kn | false => ke i_1) kr (.exit i) a' w' = Leaves Y E ρ h w L nt (match Nat.beq i id with | true => kn | false => ke i) a' w' := rfl
      have hb : Nat.beq i id = false := by
        cases hb : Nat.beq i id with
        | false => rfl
        | true => exact absurd (Nat.eq_of_beq_eq_true hb) hi
      rw [e, hb] at hq
      exact hq
  | ret => exact hq
  | goto l => exact hq.elim
  | panic ch => exact hq.elim
  | outgrown => exact hq.elim

theorem stepR_scope {P : Program} {b : Frame} {a : Act} {k : List Item} {cs : List Frame} {c : Code} : step P (lone (b.atR a (.code (.scope c) :: k)) cs w) = .next (lone (b.atR a (.code c :: .inScope c :: k)) cs w) :=
  step_lone_go (by simp [stepG, stepG.exec, Frame.atR])
theorem stepR_inScope {P : Program} {b : Frame} {a : Act} {k : List Item} {cs : List Frame} {c : Code} : step P (lone (b.atR a (.inScope c :: k)) cs w) = .next (lone (b.atR a k) cs w) :=
  step_lone_go (by simp [stepG, stepG.exec, Frame.atR])

/-- a scope through which the run goes without a goto -/
theorem scope_ok {L : Lv} {nt : Nat} {c : Code} {K : KC} (hc : CodeOk Y E L nt c K) : CodeOk Y E L nt (.scope c) K := by
  intro rc ro cro ρ h w a tm df kn ke kr n hrc hr hg hro hf hk b k cs hbro hb hroom
  obtain ⟨e, a₁, w₁, hq, harr⟩ := hc rc ro cro ρ h w a tm df kn ke kr n hrc hr hg hro hf hk b (.inScope c :: k) cs hbro hb hroom
  have h0 : (lone (b.atR a (.code (.scope c) :: k)) cs w).fenced E.P (fence cro) := fenced_calm hb hroom rfl
  cases e with
  | normal => exact ⟨.normal, a₁, w₁, hq, .head h0 stepR_scope (StepsIn.trans harr (.one (fenced_calm hb hroom rfl) stepR_inScope))⟩
  | exit id =>
    have hx : exitTo id (.inScope c :: k) = exitTo id k := by simp [exitTo]
    exact ⟨.exit id, a₁, w₁, hq, fun k' hk => .head h0 stepR_scope (harr.1 k' (by rw [hx]; exact hk)),
      fun hr' hk => let ⟨k₁, h1, h2⟩ := harr.2 hr' (by rw [hx]; exact hk); ⟨k₁, h1, .head h0 stepR_scope h2⟩⟩
  | ret => exact ⟨_, a₁, w₁, hq, .of_steps (.one h0 stepR_scope) harr⟩
  | goto l => exact hq.elim
  | panic ch => exact hq.elim
  | outgrown => exact hq.elim

/-! ### Ranges over functions -/
theorem run_newObj' {P : Program} (o : Obj) : (newObj o).run P w = .ok w.heap.size (w.alloc o) := rfl

theorem getLoop_run {P : Program} {l : Nat} {r : Loop} (hl : w.heap[l]? = some (.loop r)) : (Instr.getLoop l).run P w = .ok r w := by
  simp only [Instr.getLoop, Sem.run_bind, run_getObj' hl (fun _ _ _ h => by cases h), Result.andThen_ok]
  rfl

theorem endLoop_ok (hr : Rel Y E ρ h w) {l : Nat} {tm : T AV} {df : List ADef} {kn kr : KT} {ke : Nat → KT} (hk : endLoopK l tm df h kn ke kr = true) :
    ∃ L jump w' h', ρ l = some L ∧ (Instr.endLoop L.blk).run E.P w = .ok jump w' ∧ Goes Y E ρ h w ρ h' w' ∧
      ((jump = none ∧ kn tm df h' = true) ∨ (∃ id, jump = some (.exit id) ∧ ke id tm df h' = true) ∨ (jump = some .ret ∧ kr tm df h' = true)) := by
  unfold endLoopK at hk
  split at hk
  · rename_i s pend fn lt nt ps as bd d hb
    obtain ⟨L, ob, h1, h2, r, rfl, g1, g2, g3, g4, g5, g6, g7, g8⟩ := hr.obj l _ hb rfl
    have hgl := getLoop_run (P := E.P) h2
    have fin : s ≠ .busy → (optK (h.upd l (.loop .exhausted pend fn lt nt ps as bd d)) fun h' => jumpK pend kn ke kr tm df h') = true → ∃ L jump w' h', ρ l = some L ∧ (Instr.endLoop L.blk).run E.P w = .ok jump w' ∧ Goes Y E ρ h w ρ h' w' ∧
      ((jump = none ∧ kn tm df h' = true) ∨ (∃ id, jump = some (.exit id) ∧ ke id tm df h' = true) ∨ (jump = some .ret ∧ kr tm df h' = true)) := by
      intro hs hk
      obtain ⟨h', hu, hk⟩ := optK_eq.1 hk
      have hne : ¬ ((r.state == .busy) = true) := by
        rw [g1]
        cases s <;> first | exact absurd rfl hs | (intro h; cases h)
      refine ⟨L, r.pending, putW w L.blk (.loop { r with state := .exhausted }), h', h1, ?_, Goes.put hr hb rfl h1 hu ⟨_, rfl, rfl, g2, g3, g4, g5, g6, g7, g8⟩, ?_⟩
      · simp only [Instr.endLoop, Sem.run_bind, hgl, Result.andThen_ok, Sem.run_ite, hne, Bool.false_eq_true, if_false, run_setObj' h2 (fun _ _ _ h => by cases h), Sem.run_pure]
      · rw [g2]
        unfold jumpK at hk
        split at hk
        · exact .inl ⟨rfl, hk⟩
        · exact .inr (.inl ⟨_, rfl, hk⟩)
        · exact .inr (.inr ⟨rfl, hk⟩)
        · cases hk
    cases s with
    | busy => cases hk
    | ready => exact fin (by simp) hk
    | done => exact fin (by simp) hk
    | exhausted => exact fin (by simp) hk
  · cases hk

/-- the record is laid -/
theorem enterLoop_ok (hr : Rel Y E ρ h w) {L : Lv} {nt : Nat} {fn fn' : FuncId} {ps : Array Tmp} {assign body : Code} {ro cro : Option Nat} (hro : RoRel ρ ro cro) {tm : T AV} {df : List ADef} {a : Act} (hf : FR Y ρ L nt tm df a)
    (hL : ∀ fd, E.ft.get fn = some fd → L.live = liveOf fd) {k : Nat → List ADef → H → Bool} (hk : enterLoopK nt fn ps.toList assign body ro tm df h k = true) :
    ∃ l M mark w' ρ' h' df', (Instr.enterLoop fn' a.tmps ps assign body cro).run E.P w = .ok (M.blk, mark) w' ∧ ρ' l = some M ∧ Goes Y E ρ h w ρ' h' w' ∧ DefsRel Y ρ' df' (mark ++ a.defers) ∧ k l df' h' = true := by
  have hlay : ∀ (ρ₁ : Rho) (h₁ : H) (w₁ : World) (d : Nat) (D : Loc), ρ.le ρ₁ → Rel Y E ρ₁ h₁ w₁ → ρ₁ d = some D → ∀ b h₂, h₁.new (.loop .ready none fn tm nt ps.toList assign body d) = (b, h₂) →
      ∃ ρ₂, Goes Y E ρ₁ h₁ w₁ ρ₂ h₂ (w₁.alloc (.loop { state := .ready, pending := none, fn := fn', tmps := a.tmps, params := ps, assign, body, defers := D.blk })) ∧ ρ₂ b = some ⟨w₁.heap.size, 0, 0⟩ := by
    intro ρ₁ h₁ w₁ d D hle hr₁ hd b h₂ hn
    exact Goes.new_ptr hr₁ hn fun ρ' hle' => ⟨_, rfl, rfl, rfl, rfl, rfl, rfl, hf.size, ⟨D, hle' _ _ hd, rfl⟩, fun fd hfd => by rw [← hL fd hfd]; exact (hf.tmps.mono hle).mono hle'⟩
  unfold enterLoopK at hk
  cases ro with
  | some l =>
    cases cro with
    | none => exact hro.elim
    | some r =>
      obtain ⟨Lr, hLr, rfl⟩ := hro
      dsimp only at hk
      split at hk
      · rename_i s pend fn0 lt nt0 ps0 as0 bd0 d hb
        obtain ⟨L', ob, h1, h2, r, rfl, g1, g2, g3, g4, g5, g6, ⟨D, hD, g7⟩, g8⟩ := hr.obj l _ hb rfl
        rw [hLr] at h1
        cases h1
        cases hn : h.new (.loop .ready none fn tm nt ps.toList assign body d) with
        | mk b h' =>
          rw [hn] at hk
          obtain ⟨ρ', k1, k2⟩ := hlay ρ h w d D (Rho.le_refl _) hr hD b h' hn
          refine ⟨b, ⟨w.heap.size, 0, 0⟩, [], _, ρ', h', df, ?_, k2, k1, by simpa using hf.defs.mono k1.le, hk⟩
          simp only [Instr.enterLoop, Sem.run_bind, getLoop_run h2, Result.andThen_ok, Sem.run_pure, g7, run_newObj']
      · cases hk
  | none =>
    cases cro with
    | some r => exact hro.elim
    | none =>
      dsimp only at hk
      cases hn : h.new (.defs false) with
      | mk d h₁ =>
        rw [hn] at hk
        dsimp only at hk
        cases hn2 : h₁.new (.loop .ready none fn tm nt ps.toList assign body d) with
        | mk b h₂ =>
          rw [hn2] at hk
          dsimp only at hk
          obtain ⟨ρ₁, k1, k2⟩ := Goes.new_ptr (ob := .deferred (some [])) hr hn fun ρ' _ => rfl
          obtain ⟨ρ₂, k3, k4⟩ := hlay ρ₁ h₁ _ d ⟨w.heap.size, 0, 0⟩ k1.le k1.rel k2 b h₂ hn2
          refine ⟨b, ⟨(w.alloc (.deferred (some []))).heap.size, 0, 0⟩, [{ target := .collected w.heap.size, args := #[] }], _, ρ₂, h₂, .mark d :: df, ?_, k4, Goes.trans hr k1 k3, ⟨⟨⟨w.heap.size, 0, 0⟩, k3.le _ _ k2, rfl⟩, hf.defs.mono (Rho.le_trans k1.le k3.le)⟩, hk⟩
          simp only [Instr.enterLoop, Sem.run_bind, Result.andThen_ok, Sem.run_pure, run_newObj']

theorem range_ok' {L : Lv} (hng : L.ng = E.ng) {nt : Nat} {fn : FuncId} (hL : ∀ fd, E.ft.get fn = some fd → L.live = liveOf fd) {g : Operand} {ps : Array Tmp} {assign body : Code} : CodeOk Y E L nt (.rangeFunc g ps assign body) (rangeK L nt fn g ps.toList assign body) := by
  intro rc ro cro ρ h w a tm df kn ke kr n hrc hr hg hro hf hk
  unfold rangeK at hk
  cases hX : cX L [] g with
  | none => rw [hX] at hk; cases hk
  | some X =>
    rw [hX] at hk
    dsimp only at hk
    have hv := cX_ok hX (ERel.start hf.tmps) hg hng
    split at hk
    · rename_i f first cap hxe
      rw [hxe] at hv
      simp only [conc] at hv
      split at hv
      · rename_i fn' cfirst ccap e1 e2 e3
        cases e1
        have hge : a.eval g = .func (.func f) cfirst.toArray ccap.toArray := (Option.some.inj hv).symm
        refine wpIn_rangeFunc fun fn₀ _ => ?_
        obtain ⟨l, M, mark, w₁, ρ₁, h₁, df₁, c1, c2, c3, c4, c5⟩ := enterLoop_ok (fn' := fn₀) hr hro hf hL hk
        have hargs : concs Y ρ₁ (first ++ (.func (.yield l) [] [] :: cap)) = some (cfirst ++ (.func (.yield M.blk) #[] #[] :: ccap)) := by
          refine concs_append.2 ⟨_, _, concs_mono c3.le e2, concs_cons.2 ⟨_, _, ?_, concs_mono c3.le e3, rfl⟩, rfl⟩
          simp [conc, concs, concFn, c2]
        obtain ⟨d1, d2⟩ := hrc (.fn f) _ h₁ _ ρ₁ w₁ _ c3.rel (hg.mono c3.le) hargs c5
        refine ⟨M.blk, mark, w₁, { target := .fn (.func f) ccap.toArray, args := cfirst.toArray ++ #[.func (.yield M.blk) #[] #[]] }, w₁, f, (cfirst ++ (.func (.yield M.blk) #[] #[] :: ccap)).toArray, w₁, c1, ?_, fun _ _ => trivial, ?_, (fun h => by cases h), ?_⟩
        · have e0 : (#[Operand.const (.func (.yield M.blk) #[] #[])] : Array Operand).map a.eval = #[.func (.yield M.blk) #[] #[]] := by simp [Act.eval]
          simp only [resolve, hge, Deferred.ofValue, e0, Sem.run_pure]
        · have ea : cfirst.toArray ++ #[Value.func (.yield M.blk) #[] #[]] ++ ccap.toArray = (cfirst ++ (.func (.yield M.blk) #[] #[] :: ccap)).toArray := by simp
          simp only [invoke, ea]
          exact d1
        · refine CallsIn.mono (d2 (n - 1)) fun e w₂ he => ?_
          cases e with
          | panicked c => exact he.elim
          | outgrown => exact he.elim
          | returned v =>
            obtain ⟨ρ₂, h₂, av, p1, p2, p3⟩ := he
            obtain ⟨M', jump, w₃, h₃, q1, q2, q3, q4⟩ := endLoop_ok p1.rel p3
            have hM := p1.le _ _ c2
            rw [hM] at q1
            cases q1
            have hgo : Goes Y E ρ h w ρ₂ h₃ w₃ := Goes.trans hr c3 (Goes.trans c3.rel p1 q3)
            have hfr : FR Y ρ₂ L nt tm df₁ { a with defers := mark ++ a.defers } := ⟨hf.tmps.mono (Rho.le_trans c3.le p1.le), hf.size, c4.mono p1.le⟩
            refine ⟨jump, w₃, q2, ?_⟩
            rcases q4 with ⟨rfl, q4⟩ | ⟨id, rfl, q4⟩ | ⟨rfl, q4⟩
            · exact ⟨ρ₂, h₃, tm, df₁, hgo, hfr, q4⟩
            · exact wpIn_exit ⟨ρ₂, h₃, tm, df₁, hgo, hfr, q4⟩
            · exact wpIn_ret ⟨ρ₂, h₃, tm, df₁, hgo, hfr, q4⟩
      · cases hv
    · cases hk

theorem badC_ok {L : Lv} {nt : Nat} {c : Code} : CodeOk Y E L nt c badC := by
  intro rc ro cro ρ h w a tm df kn ke kr n _ _ _ _ _ hk
  cases hk

theorem cCode_ok (hE : EnvOk Y E) {lf : Nat} {L : Lv} (hng : L.ng = E.ng) {nt : Nat} {fn : FuncId} (hL : ∀ fd, E.ft.get fn = some fd → L.live = liveOf fd)
    (hdraw : ∀ id ops, CodeOk Y E L nt (.region id ops true) (cDraw E L nt ops.toList)) (c : Code) : CodeOk Y E L nt c (cCode E lf L nt fn c) := by
  induction c with
  | skip => intro rc ro cro ρ h w a tm df kn ke kr n hrc hr hg hro hf hk; exact wpIn_skip ⟨ρ, h, tm, df, Goes.refl hr, hf, hk⟩
  | region id ops draw =>
    cases draw with
    | false => exact region_ok hE hng
    | true => exact hdraw id ops
  | seq x y hx hy => exact seq_ok hx hy
  | cond c x y hx hy => exact cond_ok hng hx hy
  | block id c hc => exact block_ok hc
  | loop c hc => exact loop_ok hc lf
  | rangeFunc g ps assign body _ _ => exact range_ok' hng hL
  | exit id => intro rc ro cro ρ h w a tm df kn ke kr n hrc hr hg hro hf hk; exact wpIn_exit ⟨ρ, h, tm, df, Goes.refl hr, hf, hk⟩
  | scope _ hc => exact scope_ok hc
  | label l => intro rc ro cro ρ h w a tm df kn ke kr n hrc hr hg hro hf hk; exact wpIn_label ⟨ρ, h, tm, df, Goes.refl hr, hf, hk⟩
  | goto l => exact badC_ok
  | ret => intro rc ro cro ρ h w a tm df kn ke kr n hrc hr hg hro hf hk; exact wpIn_ret ⟨ρ, h, tm, df, Goes.refl hr, hf, hk⟩
  | refuse _ => exact badC_ok

end
end Go.AE
