/-
  Operands; regions whose operations go in the text's order.
-/
import Derived.Test.YtmebfcdgbjkcfaaGreatDoorAeOp
namespace Go.AE

def fence (ro : Option Nat) : Fence := { Fence.wide with round := ro }

section
variable {Y : Sy} {E : Env} {ρ : Rho} {h : H} {w : World}

/-! ### Operands -/
/-- a frame within a region: 'ds', 'env': what was written in it, the last first; 'tm': what was there before -/
structure ERel (Y : Sy) (ρ : Rho) (L : Lv) (ds : List (Option Tmp)) (env : List AV) (tm : T AV) (tmps : Array Value) : Prop where
  here : ∀ t i, posOf t ds 0 = some i → conc Y ρ (nthA i env) = some (tmps.getD t undef)
  beyond : ∀ t, posOf t ds 0 = none → Nat.testBit L.live t = true → conc Y ρ (tget tm t) = some (tmps.getD t undef)

theorem ERel.mono {ρ' : Rho} {L : Lv} {ds : List (Option Tmp)} {env : List AV} {tm : T AV} {tmps : Array Value} (h : ERel Y ρ L ds env tm tmps) (hle : ρ.le ρ') : ERel Y ρ' L ds env tm tmps :=
  ⟨fun t i ht => conc_mono hle (h.here t i ht), fun t ht hl => conc_mono hle (h.beyond t ht hl)⟩

theorem ERel.start {L : Lv} {tm : T AV} {tmps : Array Value} (h : TRel Y ρ L.live tm tmps) : ERel Y ρ L [] [] tm tmps :=
  ⟨fun t i ht => by simp [posOf] at ht, fun t _ hl => h t hl⟩

theorem cX_ok {L : Lv} {ds : List (Option Tmp)} {env : List AV} {tm : T AV} {a : Act} {x : Operand} {X : X} (hx : cX L ds x = some X) (he : ERel Y ρ L ds env tm a.tmps) (hg : Glob E ρ) (hng : L.ng = E.ng) :
    conc Y ρ (X tm env) = some (a.eval x) := by
  unfold cX at hx
  split at hx
  · rename_i t
    split at hx
    · rename_i i hi
      cases hx
      exact he.here t i hi
    · rename_i hi
      split at hx
      · rename_i hl
        cases hx
        show conc Y ρ (tgetP (pathOf t) tm) = _
        rw [tgetP_of]
        exact he.beyond t hi hl
      · cases hx
  · split at hx
    · rename_i c ac hc
      cases hx
      exact ofConst_ok hc
    · cases hx
  · rename_i g
    split at hx
    · rename_i hlt
      cases hx
      obtain ⟨c, hc⟩ := hg g (by rw [← hng]; exact (blt_iff _ _).1 hlt)
      simp [conc, hc, Loc.addr, Act.eval]
    · cases hx
  · cases hx
    rfl

theorem cXs_cons (L : Lv) (ds : List (Option Tmp)) (x : Operand) (xs : List Operand) : cXs L ds (x :: xs) = (match cX L ds x, cXs L ds xs with | some f, some g => some fun tm env => f tm env :: g tm env | _, _ => none) := rfl

theorem cXs_ok {L : Lv} {ds : List (Option Tmp)} {env : List AV} {tm : T AV} {a : Act} (he : ERel Y ρ L ds env tm a.tmps) (hg : Glob E ρ) (hng : L.ng = E.ng) : ∀ {xs : List Operand} {X : XS}, cXs L ds xs = some X → concs Y ρ (X tm env) = some (xs.map a.eval) := by
  intro xs
  induction xs with
  | nil => intro X hx; cases hx; rfl
  | cons x xs ih =>
    intro X hx
    rw [cXs_cons] at hx
    cases h1 : cX L ds x with
    | none => rw [h1] at hx; cases hx
    | some f =>
      rw [h1] at hx
      cases h2 : cXs L ds xs with
      | none => rw [h2] at hx; cases hx
      | some g =>
        rw [h2] at hx
        cases hx
        exact concs_cons.2 ⟨_, _, cX_ok h1 he hg hng, ih h2, rfl⟩

theorem posOf_succ (t : Nat) : ∀ (ds : List (Option Tmp)) (i : Nat), posOf t ds (i + 1) = (posOf t ds i).map (· + 1)
  | [], _ => rfl
  | none :: r, i => posOf_succ t r (i + 1)
  | some d :: r, i => by
    simp only [posOf]
    cases Nat.beq d t with
    | true => rfl
    | false => exact posOf_succ t r (i + 1)

theorem getD_put {a : Act} {d : Nat} {v : Value} (hd : d < a.tmps.size) (t : Nat) : (a.put (some d) v).tmps.getD t undef = if t = d then v else a.tmps.getD t undef := by
  simp only [Act.put, Array.getD_eq_getD_getElem?, Array.getElem?_setIfInBounds]
  by_cases h : d = t
  · subst h; simp [hd]
  · rw [if_neg h, if_neg (fun e => h e.symm)]

theorem put_size {a : Act} {dst : Option Tmp} {v : Value} : (a.put dst v).tmps.size = a.tmps.size := by
  cases dst <;> simp [Act.put]

theorem put_defers {a : Act} {dst : Option Tmp} {v : Value} : (a.put dst v).defers = a.defers := by
  cases dst <;> rfl

theorem ERel.put {L : Lv} {ds : List (Option Tmp)} {env : List AV} {tm : T AV} {a : Act} {dst : Option Tmp} {v : AV} {cv : Value} (he : ERel Y ρ L ds env tm a.tmps) (hv : conc Y ρ v = some cv) (hd : ∀ d, dst = some d → d < a.tmps.size) :
    ERel Y ρ L (dst :: ds) (v :: env) tm (a.put dst cv).tmps := by
  cases dst with
  | none =>
    refine ⟨fun t i ht => ?_, fun t ht hl => ?_⟩
    · have ht' : posOf t ds (0 + 1) = some i := ht
      rw [posOf_succ, Option.map_eq_some_iff] at ht'
      obtain ⟨j, hj, rfl⟩ := ht'
      exact he.here t j hj
    · have ht' : posOf t ds (0 + 1) = none := ht
      rw [posOf_succ, Option.map_eq_none_iff] at ht'
      exact he.beyond t ht' hl
  | some d =>
    have hlt := hd d rfl
    refine ⟨fun t i ht => ?_, fun t ht hl => ?_⟩
    · rw [getD_put hlt]
      simp only [posOf] at ht
      cases hb : Nat.beq d t with
      | true =>
        rw [hb] at ht
        cases ht
        have := Nat.eq_of_beq_eq_true hb
        rw [if_pos this.symm]
        exact hv
      | false =>
        rw [hb] at ht
        have hne : d ≠ t := Nat.ne_of_beq_eq_false hb
        rw [if_neg (Ne.symm hne)]
        have ht' : posOf t ds (0 + 1) = some i := ht
        rw [posOf_succ, Option.map_eq_some_iff] at ht'
        obtain ⟨j, hj, rfl⟩ := ht'
        exact he.here t j hj
    · rw [getD_put hlt]
      simp only [posOf] at ht
      cases hb : Nat.beq d t with
      | true => rw [hb] at ht; cases ht
      | false =>
        rw [hb] at ht
        have hne : d ≠ t := Nat.ne_of_beq_eq_false hb
        rw [if_neg (Ne.symm hne)]
        have ht' : posOf t ds (0 + 1) = none := ht
        rw [posOf_succ, Option.map_eq_none_iff] at ht'
        exact he.beyond t ht' hl

/-! ### One operation -/
theorem newK_ok {s : Sem Value} {o : AObj} {mk : Nat → AV} {k : KV} (hr : Rel Y E ρ h w) (hm : Makes Y E ρ w s o mk) (hk : newK h o mk k = true) : BigPost Y E ρ h w k ((do pure (.value (← s)) : Sem Next).run E.P w) := by
  obtain ⟨ob, cv, h1, h2, h3⟩ := hm
  unfold newK at hk
  cases hn : h.new o with
  | mk b h' =>
    rw [hn] at hk
    obtain ⟨ρ', k1, k2⟩ := Goes.new_ptr hr hn h2
    rw [run_v h1]
    exact ⟨ρ', h', mk b, k1, h3 ρ' b k1.le k2, hk⟩

theorem stepK_big (hE : EnvOk Y E) {rc : Rec} (hrc : RecOk Y E rc) (hr : Rel Y E ρ h w) (hg : Glob E ρ) {L : Lv} (hng : L.ng = E.ng) {ds : List (Option Tmp)} {env : List AV} {tm : T AV} {a : Act} (he : ERel Y ρ L ds env tm a.tmps) {o : Oper} {k : KV}
    (hk : (stepK L ds (cOp E o.op)).run rc tm env h k = true) : BigPost Y E ρ h w k ((execOp a.eval o).run E.P w) := by
  have hok := cOp_ok (Y := Y) hE o
  cases hc : cOp E o.op with
  | p1 x g =>
    rw [hc] at hk hok
    simp only [stepK] at hk
    cases hx : cX L ds x with
    | none => rw [hx] at hk; cases hk
    | some X =>
      rw [hx] at hk
      dsimp only at hk
      obtain ⟨v, hv, hk⟩ := optK_eq.1 hk
      obtain ⟨cv, k1, k2⟩ := hok ρ a.eval w _ v (cX_ok hx he hg hng) hv
      rw [k1]
      exact ⟨ρ, h, v, Goes.refl hr, k2, hk⟩
  | p2 x y g =>
    rw [hc] at hk hok
    simp only [stepK] at hk
    cases hx : cX L ds x with
    | none => rw [hx] at hk; cases hk
    | some X =>
      cases hy : cX L ds y with
      | none => rw [hx, hy] at hk; cases hk
      | some Z =>
        rw [hx, hy] at hk
        dsimp only at hk
        obtain ⟨v, hv, hk⟩ := optK_eq.1 hk
        obtain ⟨cv, k1, k2⟩ := hok ρ a.eval w _ _ v (cX_ok hx he hg hng) (cX_ok hy he hg hng) hv
        rw [k1]
        exact ⟨ρ, h, v, Goes.refl hr, k2, hk⟩
  | pn xs g =>
    rw [hc] at hk hok
    simp only [stepK] at hk
    cases hx : cXs L ds xs with
    | none => rw [hx] at hk; cases hk
    | some X =>
      rw [hx] at hk
      dsimp only at hk
      obtain ⟨v, hv, hk⟩ := optK_eq.1 hk
      obtain ⟨cv, k1, k2⟩ := hok ρ a.eval w _ v (cXs_ok he hg hng hx) hv
      rw [k1]
      exact ⟨ρ, h, v, Goes.refl hr, k2, hk⟩
  | r1 x g =>
    rw [hc] at hk hok
    simp only [stepK] at hk
    cases hx : cX L ds x with
    | none => rw [hx] at hk; cases hk
    | some X =>
      rw [hx] at hk
      dsimp only at hk
      obtain ⟨v, hv, hk⟩ := optK_eq.1 hk
      obtain ⟨cv, k1, k2⟩ := hok.2 ρ a.eval w h _ v hr (cX_ok hx he hg hng) hv
      rw [k1]
      exact ⟨ρ, h, v, Goes.refl hr, k2, hk⟩
  | r2 x y g =>
    rw [hc] at hk hok
    simp only [stepK] at hk
    cases hx : cX L ds x with
    | none => rw [hx] at hk; cases hk
    | some X =>
      cases hy : cX L ds y with
      | none => rw [hx, hy] at hk; cases hk
      | some Z =>
        rw [hx, hy] at hk
        dsimp only at hk
        obtain ⟨v, hv, hk⟩ := optK_eq.1 hk
        obtain ⟨cv, k1, k2⟩ := hok.2 ρ a.eval w h _ _ v hr (cX_ok hx he hg hng) (cX_ok hy he hg hng) hv
        rw [k1]
        exact ⟨ρ, h, v, Goes.refl hr, k2, hk⟩
  | rn xs bk g =>
    rw [hc] at hk hok
    simp only [stepK] at hk
    cases hx : cXs L ds xs with
    | none => rw [hx] at hk; cases hk
    | some X =>
      rw [hx] at hk
      dsimp only at hk
      obtain ⟨v, hv, hk⟩ := optK_eq.1 hk
      obtain ⟨cv, k1, k2⟩ := hok.2.2 ρ a.eval w h _ v hr (cXs_ok he hg hng hx) hv
      rw [k1]
      exact ⟨ρ, h, v, Goes.refl hr, k2, hk⟩
  | a1 x g =>
    rw [hc] at hk hok
    simp only [stepK] at hk
    cases hx : cX L ds x with
    | none => rw [hx] at hk; cases hk
    | some X =>
      rw [hx] at hk
      dsimp only at hk
      obtain ⟨ob, hv, hk⟩ := optK_eq.1 hk
      obtain ⟨s, k1, k2⟩ := hok ρ a.eval w _ ob (cX_ok hx he hg hng) hv
      rw [k1]
      exact newK_ok hr k2 hk
  | an xs g =>
    rw [hc] at hk hok
    simp only [stepK] at hk
    cases hx : cXs L ds xs with
    | none => rw [hx] at hk; cases hk
    | some X =>
      rw [hx] at hk
      dsimp only at hk
      obtain ⟨p, hv, hk⟩ := optK_eq.1 hk
      obtain ⟨s, k1, k2⟩ := hok ρ a.eval w _ p (cXs_ok he hg hng hx) hv
      rw [k1]
      exact newK_ok hr k2 hk
  | b2 x y g =>
    rw [hc] at hk hok
    simp only [stepK] at hk
    cases hx : cX L ds x with
    | none => rw [hx] at hk; cases hk
    | some X =>
      cases hy : cX L ds y with
      | none => rw [hx, hy] at hk; cases hk
      | some Z =>
        rw [hx, hy] at hk
        dsimp only at hk
        obtain ⟨h', hv, hk⟩ := optK_eq.1 hk
        obtain ⟨w', k1, k2⟩ := hok ρ a.eval w h h' _ _ hr (cX_ok hx he hg hng) (cX_ok hy he hg hng) hv
        rw [k1]
        exact ⟨ρ, h', undefA, k2, rfl, hk⟩
  | bn xs g =>
    rw [hc] at hk hok
    simp only [stepK] at hk
    cases hx : cXs L ds xs with
    | none => rw [hx] at hk; cases hk
    | some X =>
      rw [hx] at hk
      exact hok rc k ρ a.eval w h _ hrc hr hg (cXs_ok he hg hng hx) hk
  | df xs g => rw [hc] at hk; cases hk
  | bad => rw [hc] at hk; cases hk

theorem stepK_not_defer {rc : Rec} {L : Lv} {ds : List (Option Tmp)} {env : List AV} {tm : T AV} {o : Oper} {k : KV} (hk : (stepK L ds (cOp E o.op)).run rc tm env h k = true) : ∀ c, o.op ≠ .defer c := by
  intro c ho
  rw [ho] at hk
  cases hc : c.callee <;> (simp only [cOp, hc] at hk; cases hk)

theorem upon_of_big {o : Oper} {a : Act} {k : KV} {r : Result Next} {ro : Option Nat} {n : Nat} {next : Act → World → Prop} {Q : Exit → Act → World → Prop} (hb : BigPost Y E ρ h w k r)
    (hnext : ∀ v w', PostV Y E ρ h w k (.returned v) w' → next (a.put o.dst v) w') : o.uponIn (fence ro) n E.P a next Q r := by
  cases r with
  | halt x w' => exact hb.elim
  | ok x w' =>
    cases x <;> first | exact hb.elim | skip
    case value v => exact hnext v w' hb
    case skip => exact hnext undef w' hb
    case enter f args =>
      refine ⟨(fun h => by cases h), ?_⟩
      exact CallsIn.mono (hb (n - 1)) fun e w'' he => by
        cases e with
        | returned v => exact hnext v w'' he
        | panicked c => exact he.elim
        | outgrown => exact he.elim
    case round l f tmps as b =>
      refine ⟨(fun h => by cases h), ?_⟩
      exact RoundIn.mono (hb (n - 1)) fun e w'' he => by
        cases e with
        | returned v => exact hnext v w'' he
        | panicked c => exact he.elim
        | outgrown => exact he.elim

theorem Goes.of_below {w' : World} (hr : Rel Y E ρ h w) (hb : RowKit.Below w.heap.size w w') : Goes Y E ρ h w ρ h w' := by
  refine ⟨Rho.le_refl _, ⟨fun b o hbo ha => ?_, hr.inj, hr.fresh, fun b L hL => Nat.lt_of_lt_of_le (hr.bound b L hL) hb.size⟩, ⟨hb.os, hb.tape, hb.output, hb.size, fun c hc _ => hb.block c hc⟩, Keeps.refl _, (fun b L h0 h1 => by rw [h0] at h1; cases h1), fun _ _ => rfl⟩
  obtain ⟨L, ob, h1, h2, h3⟩ := hr.obj b o hbo ha
  exact ⟨L, ob, h1, by rw [hb.block _ (hr.bound b L h1)]; exact h2, h3⟩

/-! ### Guards -/
theorem stripW_ok {e : SX} {ks : List Int} (hi : inV (e.val Y) ks = true) {v : AV} {c : Value} (h : conc Y ρ v = some c) : conc Y ρ (stripW e ks v) = some c := by
  unfold stripW
  split
  · rename_i e' ks' u
    split
    · rename_i h1 h2
      obtain rfl := eqX_eq h1
      obtain rfl := eqIs_eq h2
      simpa only [conc, hi, if_true] using h
    · exact h
  · exact h

theorem stripWs_ok {e : SX} {ks : List Int} (hi : inV (e.val Y) ks = true) : ∀ {l : List AV} {cs : List Value}, concs Y ρ l = some cs → concs Y ρ (stripWs e ks l) = some cs
  | [], cs, h => h
  | v :: l, cs, h => by
    obtain ⟨c, r, h1, h2, rfl⟩ := concs_cons.1 h
    exact concs_cons.2 ⟨c, r, stripW_ok hi h1, stripWs_ok hi h2, rfl⟩

theorem plainC_free {v : AV} (h : plainC v = true) (ρ ρ' : Rho) : conc Y ρ v = conc Y ρ' v := by
  cases v <;> first | rfl | (cases h; done)

theorem plainL_free : ∀ {l : List AV}, plainL l = true → ∀ ρ ρ' : Rho, concs Y ρ l = concs Y ρ' l
  | [], _, _, _ => rfl
  | v :: l, h, ρ, ρ' => by
    simp only [plainL] at h
    split at h
    · rename_i h1
      simp only [concs, plainC_free h1 ρ ρ', plainL_free h ρ ρ']
    · cases h

theorem plainA_free {v : AV} (h : plainA v = true) (ρ ρ' : Rho) : conc Y ρ v = conc Y ρ' v := by
  unfold plainA at h
  split at h
  · simp only [conc, plainL_free h ρ ρ']
  · exact plainC_free h ρ ρ'

theorem plainAs_free : ∀ {l : List AV}, plainAs l = true → ∀ ρ ρ' : Rho, concs Y ρ l = concs Y ρ' l
  | [], _, _, _ => rfl
  | v :: l, h, ρ, ρ' => by
    simp only [plainAs] at h
    split at h
    · rename_i h1
      simp only [concs, plainA_free h1 ρ ρ', plainAs_free h ρ ρ']
    · cases h

theorem plainCall_free {l : List AV} (h : plainCall l = true) (ρ ρ' : Rho) : concs Y ρ l = concs Y ρ' l := by
  unfold plainCall at h
  split at h
  · rename_i f l
    have e : conc Y ρ (.func (.func f) [] []) = conc Y ρ' (.func (.func f) [] []) := rfl
    simp only [concs, e, plainAs_free h ρ ρ']
  · cases h

theorem BigPost.map {ρ₀ : Rho} {h₀ : H} {k₀ k : KV} {r : Result Next} (hp : ∀ v w', PostV Y E ρ₀ h₀ w k₀ (.returned v) w' → PostV Y E ρ h w k (.returned v) w') (hb : BigPost Y E ρ₀ h₀ w k₀ r) : BigPost Y E ρ h w k r := by
  have all : ∀ e w', PostV Y E ρ₀ h₀ w k₀ e w' → PostV Y E ρ h w k e w' := by
    intro e w' he
    cases e with
    | returned v => exact hp v w' he
    | panicked c => exact he.elim
    | outgrown => exact he.elim
  cases r with
  | halt x w' => exact hb.elim
  | ok x w' =>
    cases x <;> first | exact hb.elim | skip
    case value v => exact hp v w' hb
    case skip => exact hp undef w' hb
    case enter f args => exact fun n => CallsIn.mono (hb n) all
    case round l f tmps as b => exact fun n => RoundIn.mono (hb n) all

theorem isFalseA_eq {v : AV} (h : isFalseA v = true) : v = .bool false := by
  unfold isFalseA at h
  split at h
  · rfl
  · cases h

/-- an operation of which it is not known whether it is done -/
theorem unsure_ok (hE : EnvOk Y E) {rc : Rec} (hrc : RecOk Y E rc) (hr : Rel Y E ρ h w) (hg : Glob E ρ) {L : Lv} (hng : L.ng = E.ng) {ds : List (Option Tmp)} {env : List AV} {tm : T AV} {a : Act} (he : ERel Y ρ L ds env tm a.tmps) {o : Oper} {k : KV} {e : SX} {ks : List Int}
    (hk : (unsureK L ds (cOp E o.op)).run e ks rc tm env h k = true) : ∃ v, k (.when e ks v) h = true ∧ (∀ c, o.op ≠ .defer c) ∧ (inV (e.val Y) ks = true → BigPost Y E ρ h w k ((execOp a.eval o).run E.P w)) := by
  have hok := cOp_ok (Y := Y) hE o
  have hnd : ∀ c, o.op ≠ .defer c := by
    intro c ho
    rw [ho] at hk
    cases hc : c.callee <;> (simp only [cOp, hc] at hk; cases hk)
  cases hc : cOp E o.op with
  | p1 x g =>
    rw [hc] at hk hok
    simp only [unsureK] at hk
    cases hx : cX L ds x with
    | none => rw [hx] at hk; cases hk
    | some X =>
      rw [hx] at hk
      dsimp only at hk
      obtain ⟨v, hv, hk⟩ := optK_eq.1 hk
      refine ⟨v, hk, hnd, fun hi => ?_⟩
      obtain ⟨cv, k1, k2⟩ := hok ρ a.eval w _ v (stripW_ok hi (cX_ok hx he hg hng)) hv
      rw [k1]
      exact ⟨ρ, h, .when e ks v, Goes.refl hr, by simpa only [conc, hi, if_true] using k2, hk⟩
  | p2 x y g =>
    rw [hc] at hk hok
    simp only [unsureK] at hk
    cases hx : cX L ds x with
    | none => rw [hx] at hk; cases hk
    | some X =>
      cases hy : cX L ds y with
      | none => rw [hx, hy] at hk; cases hk
      | some Z =>
        rw [hx, hy] at hk
        dsimp only at hk
        obtain ⟨v, hv, hk⟩ := optK_eq.1 hk
        refine ⟨v, hk, hnd, fun hi => ?_⟩
        obtain ⟨cv, k1, k2⟩ := hok ρ a.eval w _ _ v (stripW_ok hi (cX_ok hx he hg hng)) (stripW_ok hi (cX_ok hy he hg hng)) hv
        rw [k1]
        exact ⟨ρ, h, .when e ks v, Goes.refl hr, by simpa only [conc, hi, if_true] using k2, hk⟩
  | pn xs g =>
    rw [hc] at hk hok
    simp only [unsureK] at hk
    cases hx : cXs L ds xs with
    | none => rw [hx] at hk; cases hk
    | some X =>
      rw [hx] at hk
      dsimp only at hk
      obtain ⟨v, hv, hk⟩ := optK_eq.1 hk
      refine ⟨v, hk, hnd, fun hi => ?_⟩
      obtain ⟨cv, k1, k2⟩ := hok ρ a.eval w _ v (stripWs_ok hi (cXs_ok he hg hng hx)) hv
      rw [k1]
      exact ⟨ρ, h, .when e ks v, Goes.refl hr, by simpa only [conc, hi, if_true] using k2, hk⟩
  | r1 x g =>
    rw [hc] at hk hok
    simp only [unsureK] at hk
    cases hx : cX L ds x with
    | none => rw [hx] at hk; cases hk
    | some X =>
      rw [hx] at hk
      dsimp only at hk
      obtain ⟨v, hv, hk⟩ := optK_eq.1 hk
      refine ⟨v, hk, hnd, fun hi => ?_⟩
      obtain ⟨cv, k1, k2⟩ := hok.2 ρ a.eval w h _ v hr (stripW_ok hi (cX_ok hx he hg hng)) hv
      rw [k1]
      exact ⟨ρ, h, .when e ks v, Goes.refl hr, by simpa only [conc, hi, if_true] using k2, hk⟩
  | bn xs g =>
    rw [hc] at hk hok
    simp only [unsureK] at hk
    cases hx : cXs L ds xs with
    | none => rw [hx] at hk; cases hk
    | some X =>
      rw [hx] at hk
      dsimp only at hk
      split at hk
      · rename_i hp hrun
        refine ⟨.bool false, hk, hnd, fun hi => ?_⟩
        have hl := stripWs_ok hi (cXs_ok he hg hng hx)
        rw [hng] at hrun
        let ρ₀ : Rho := fun b => if b < E.ng then ρ b else none
        have hr₀ : Rel Y E ρ₀ ⟨.nil, E.ng, [], []⟩ w := by
          have hnone : ∀ b, H.get ⟨.nil, E.ng, [], []⟩ b = none := fun b => by rw [H.get_eq]; rfl
          refine ⟨fun b o hb _ => ?_, fun b c o p L M hb _ _ _ _ _ _ => ?_, fun b hb => ?_, fun b L hL => ?_⟩
          · rw [hnone] at hb; cases hb
          · rw [hnone] at hb; cases hb
          · have hb' : E.ng ≤ b := hb
            show (if b < E.ng then ρ b else none) = none
            rw [if_neg (by omega)]
          · have hL' : (if b < E.ng then ρ b else none) = some L := hL
            split at hL'
            · exact hr.bound b L hL'
            · cases hL'
        have hg₀ : Glob E ρ₀ := fun g hgn => by
          obtain ⟨c, hc⟩ := hg g hgn
          exact ⟨c, by show (if g < E.ng then ρ g else none) = _; rw [if_pos hgn]; exact hc⟩
        have hb := hok rc (fun v _ => isFalseA v) ρ₀ a.eval w _ _ hrc hr₀ hg₀ (by rw [plainCall_free hp ρ₀ ρ]; exact hl) hrun
        refine BigPost.map (fun v w' hv => ?_) hb
        obtain ⟨ρ', h', av, hgo, h1, h2⟩ := hv
        obtain rfl := isFalseA_eq h2
        cases h1
        have hbel : RowKit.Below w.heap.size w w' := by
          refine ⟨hgo.frm.os, hgo.frm.tape, hgo.frm.output, hgo.frm.size, fun c hc' => hgo.frm.block c hc' fun b o L hb' _ _ => ?_⟩
          have : H.get ⟨.nil, E.ng, [], []⟩ b = none := by rw [H.get_eq]; rfl
          rw [this] at hb'
          cases hb'
        exact ⟨ρ, h, .when e ks (.bool false), Goes.of_below hr hbel, by simp only [conc, hi, if_true], hk⟩
      · cases hk
  | _ => rw [hc] at hk; cases hk

theorem wanted_in {ops : Array Oper} {o : Oper} {L : Lv} {ds : List (Option Tmp)} {env : List AV} {tm : T AV} {a : Act} {d : Tmp} {want : Bool} {X : X} {e : SX} {ks : List Int} {b : Bool} (hg : Glob E ρ) (hng : L.ng = E.ng) (he : ERel Y ρ L ds env tm a.tmps)
    (hgu : guardOf ops.toList o.guard = some (some (d, want))) (hx : cX L ds (.tmp d) = some X) (hin : inOf want (X tm env) = some (e, ks)) (hb : inV (e.val Y) ks = b) : Region.wanted o (yielded ops a.tmps) = b := by
  have hv := cX_ok hx he hg hng
  have hv' : conc Y ρ (X tm env) = some (a.tmps.getD d undef) := hv
  have hcase : (a.tmps[d]? = some (.bool b) ∧ want = true) ∨ (b = true ∧ a.tmps[d]? = some (.bool want)) ∨ (b = false ∧ a.tmps.getD d undef = undef) := by
    have get : ∀ c, some (Value.bool c) = some (a.tmps.getD d undef) → a.tmps[d]? = some (.bool c) := by
      intro c hc
      simp only [Option.some.injEq] at hc
      rw [Array.getD_eq_getD_getElem?] at hc
      cases hq : a.tmps[d]? with
      | none => rw [hq] at hc; cases hc
      | some u => rw [hq] at hc; exact congrArg some hc.symm
    unfold inOf at hin
    split at hin
    · rename_i e' ks' h1
      cases want with
      | false => cases hin
      | true =>
        cases hin
        rw [h1] at hv'
        simp only [conc, Q.val, hb] at hv'
        exact .inl ⟨get b hv', rfl⟩
    · rename_i e' ks' bb h1
      have hbw : bb = want ∧ e' = e ∧ ks' = ks := by cases bb <;> cases want <;> simp_all
      obtain ⟨rfl, rfl, rfl⟩ := hbw
      rw [h1] at hv'
      simp only [conc, hb] at hv'
      cases b with
      | true => exact .inr (.inl ⟨rfl, get bb (by simpa using hv')⟩)
      | false => exact .inr (.inr ⟨rfl, by simpa using hv'.symm⟩)
    · cases hin
  unfold guardOf at hgu
  split at hgu
  · cases hgu
  · rename_i j want' hgd
    rw [bnd_eq] at hgu
    obtain ⟨o', ho', hgu⟩ := hgu
    rw [bnd_eq] at hgu
    obtain ⟨d', hd', hgu⟩ := hgu
    cases hgu
    have ho2 : ops[j]? = some o' := by rw [← Array.getElem?_toList]; exact ho'
    unfold Region.wanted
    rw [hgd]
    simp only [yielded, ho2, Option.bind_some, hd']
    rcases hcase with ⟨hget, rfl⟩ | ⟨rfl, hget⟩ | ⟨rfl, hu⟩
    · rw [hget]
      cases b <;> rfl
    · rw [hget]
      cases want <;> rfl
    · cases hq : a.tmps[d]? with
      | none => rfl
      | some u =>
        have : u = undef := by
          rw [Array.getD_eq_getD_getElem?, hq] at hu
          exact hu
        subst this
        rfl

theorem wanted_of {ops : Array Oper} {o : Oper} {L : Lv} {ds : List (Option Tmp)} {env : List AV} {tm : T AV} {a : Act} {d : Tmp} {want : Bool} {X : X} {b : Bool} (hg : Glob E ρ) (hng : L.ng = E.ng) (he : ERel Y ρ L ds env tm a.tmps)
    (hgu : guardOf ops.toList o.guard = some (some (d, want))) (hx : cX L ds (.tmp d) = some X) (hw : isWanted want (X tm env) = some b) : Region.wanted o (yielded ops a.tmps) = b := by
  have hv := cX_ok hx he hg hng
  unfold guardOf at hgu
  split at hgu
  · cases hgu
  · rename_i j want' hgd
    rw [bnd_eq] at hgu
    obtain ⟨o', ho', hgu⟩ := hgu
    rw [bnd_eq] at hgu
    obtain ⟨d', hd', hgu⟩ := hgu
    cases hgu
    have ho2 : ops[j]? = some o' := by rw [← Array.getElem?_toList]; exact ho'
    have hv' : conc Y ρ (X tm env) = some (a.tmps.getD d undef) := hv
    unfold isWanted at hw
    split at hw
    · rename_i bb hbb
      rw [hbb] at hv'
      simp only [conc, Option.some.injEq] at hv'
      have hget : a.tmps[d]? = some (.bool bb) := by
        rw [Array.getD_eq_getD_getElem?] at hv'
        cases hq : a.tmps[d]? with
        | none => rw [hq] at hv'; cases hv'
        | some u => rw [hq] at hv'; exact congrArg some hv'.symm
      cases hw
      unfold Region.wanted
      rw [hgd]
      simp only [yielded, ho2, Option.bind_some, hd', hget]
      cases bb <;> cases want <;> rfl
    · rename_i hbb
      cases hw
      rw [hbb] at hv'
      have hu : a.tmps.getD d undef = undef := by
        simp only [conc, concs, Option.some.injEq] at hv'
        exact hv'.symm
      unfold Region.wanted
      rw [hgd]
      simp only [yielded, ho2, Option.bind_some, hd']
      cases hq : a.tmps[d]? with
      | none => rfl
      | some u =>
        have : u = undef := by
          rw [Array.getD_eq_getD_getElem?, hq] at hu
          exact hu
        subst this
        rfl
    · rename_i e ks bb hbb
      have hbw : b = false ∧ bb ≠ want := by
        cases bb <;> cases want <;> simp_all
      obtain ⟨rfl, hbw⟩ := hbw
      rw [hbb] at hv'
      simp only [conc] at hv'
      have hget : a.tmps[d]? = some (.bool bb) ∨ a.tmps.getD d undef = undef := by
        split at hv'
        · simp only [Option.some.injEq] at hv'
          left
          rw [Array.getD_eq_getD_getElem?] at hv'
          cases hq : a.tmps[d]? with
          | none => rw [hq] at hv'; cases hv'
          | some u => rw [hq] at hv'; exact congrArg some hv'.symm
        · simp only [Option.some.injEq] at hv'
          exact .inr hv'.symm
      unfold Region.wanted
      rw [hgd]
      simp only [yielded, ho2, Option.bind_some, hd']
      rcases hget with hget | hu
      · rw [hget]
        cases bb <;> cases want <;> first | rfl | exact absurd rfl hbw
      · cases hq : a.tmps[d]? with
        | none => rfl
        | some u =>
          have : u = undef := by
            rw [Array.getD_eq_getD_getElem?, hq] at hu
            exact hu
          subst this
          rfl
    · cases hw

end
end Go.AE
