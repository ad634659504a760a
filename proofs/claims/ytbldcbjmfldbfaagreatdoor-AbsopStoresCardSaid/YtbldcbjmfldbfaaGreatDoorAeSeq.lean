/-
  Operands; regions whose operations go in the text's order.
-/
import Derived.Test.YtbldcbjmfldbfaaGreatDoorAeOp
namespace Go.AE

def fence (ro : Option Nat) : Fence := { Fence.wide with round := ro }

section
variable {Y : Sy} {E : Env} {ρ : Rho} {h : H} {w : World}

/-! ### Operands -/
/-- a frame within a region: 'ds', 'env': what was written in it, the last first; 'tm': what was there before -/
structure ERel (Y : Sy) (ρ : Rho) (L : Lv) (ds : List (Option Tmp)) (env : List AV) (tm : T AV) (tmps : Array Value) : Prop where
  here : ∀ t i, posOf t ds 0 = some i → conc Y ρ (nthA i env) = some (tmps.getD t undef)
  beyond : ∀ t, posOf t ds 0 = none → Nat.testBit L.live t = true → conc Y ρ (tget tm t) = some (tmps.getD t undef)

theorem ERel.mono {ρ' : Rho} {L : Lv} {ds : List (Option Tmp)} {env : List AV} {tm : T AV} {tmps : Array Value} (h : ERel Y ρ L ds env tm tmps) (hle : ρ.le ρ') : ERel Y ρ' L ds env tm tmps :=
  ⟨fun t i ht => conc_mono hle (h.here t i ht), fun t ht hl => conc_mono hle (h.beyond t ht hl)⟩

theorem ERel.start {L : Lv} {tm : T AV} {tmps : Array Value} (h : TRel Y ρ L.live tm tmps) : ERel Y ρ L [] [] tm tmps :=
  ⟨fun t i ht => by simp [posOf] at ht, fun t _ hl => h t hl⟩

theorem cX_ok {L : Lv} {ds : List (Option Tmp)} {env : List AV} {tm : T AV} {a : Act} {x : Operand} {X : X} (hx : cX L ds x = some X) (he : ERel Y ρ L ds env tm a.tmps) (hg : Glob E ρ) (hng : L.ng = E.ng) :
    conc Y ρ (X tm env) = some (a.eval x) := by
  unfold cX at hx
  split at hx
  · rename_i t
    split at hx
    · rename_i i hi
      cases hx
      exact he.here t i hi
    · rename_i hi
      split at hx
      · rename_i hl
        cases hx
        show conc Y ρ (tgetP (pathOf t) tm) = _
        rw [tgetP_of]
        exact he.beyond t hi hl
      · cases hx
  · split at hx
    · rename_i c ac hc
      cases hx
      exact ofConst_ok hc
    · cases hx
  · rename_i g
    split at hx
    · rename_i hlt
      cases hx
      obtain ⟨c, hc⟩ := hg g (by rw [← hng]; exact (blt_iff _ _).1 hlt)
      simp [conc, hc, Loc.addr, Act.eval]
    · cases hx
  · cases hx
    rfl

theorem cXs_cons (L : Lv) (ds : List (Option Tmp)) (x : Operand) (xs : List Operand) : cXs L ds (x :: xs) = (match cX L ds x, cXs L ds xs with | some f, some g => some fun tm env => f tm env :: g tm env | _, _ => none) := rfl

theorem cXs_ok {L : Lv} {ds : List (Option Tmp)} {env : List AV} {tm : T AV} {a : Act} (he : ERel Y ρ L ds env tm a.tmps) (hg : Glob E ρ) (hng : L.ng = E.ng) : ∀ {xs : List Operand} {X : XS}, cXs L ds xs = some X → concs Y ρ (X tm env) = some (xs.map a.eval) := by
  intro xs
  induction xs with
  | nil => intro X hx; cases hx; rfl
  | cons x xs ih =>
    intro X hx
    rw [cXs_cons] at hx
    cases h1 : cX L ds x with
    | none => rw [h1] at hx; cases hx
    | some f =>
      rw [h1] at hx
      cases h2 : cXs L ds xs with
      | none => rw [h2] at hx; cases hx
      | some g =>
        rw [h2] at hx
        cases hx
        exact concs_cons.2 ⟨_, _, cX_ok h1 he hg hng, ih h2, rfl⟩

theorem posOf_succ (t : Nat) : ∀ (ds : List (Option Tmp)) (i : Nat), posOf t ds (i + 1) = (posOf t ds i).map (· + 1)
  | [], _ => rfl
  | none :: r, i => posOf_succ t r (i + 1)
  | some d :: r, i => by
    simp only [posOf]
    cases Nat.beq d t with
    | true => rfl
    | false => exact posOf_succ t r (i + 1)

theorem getD_put {a : Act} {d : Nat} {v : Value} (hd : d < a.tmps.size) (t : Nat) : (a.put (some d) v).tmps.getD t undef = if t = d then v else a.tmps.getD t undef := by
  simp only [Act.put, Array.getD_eq_getD_getElem?, Array.getElem?_setIfInBounds]
  by_cases h : d = t
  · subst h; simp [hd]
  · rw [if_neg h, if_neg (fun e => h e.symm)]

theorem put_size {a : Act} {dst : Option Tmp} {v : Value} : (a.put dst v).tmps.size = a.tmps.size := by
  cases dst <;> simp [Act.put]

theorem put_defers {a : Act} {dst : Option Tmp} {v : Value} : (a.put dst v).defers = a.defers := by
  cases dst <;> rfl

theorem ERel.put {L : Lv} {ds : List (Option Tmp)} {env : List AV} {tm : T AV} {a : Act} {dst : Option Tmp} {v : AV} {cv : Value} (he : ERel Y ρ L ds env tm a.tmps) (hv : conc Y ρ v = some cv) (hd : ∀ d, dst = some d → d < a.tmps.size) :
    ERel Y ρ L (dst :: ds) (v :: env) tm (a.put dst cv).tmps := by
  cases dst with
  | none =>
    refine ⟨fun t i ht => ?_, fun t ht hl => ?_⟩
    · have ht' : posOf t ds (0 + 1) = some i := ht
      rw [posOf_succ, Option.map_eq_some_iff] at ht'
      obtain ⟨j, hj, rfl⟩ := ht'
      exact he.here t j hj
    · have ht' : posOf t ds (0 + 1) = none := ht
      rw [posOf_succ, Option.map_eq_none_iff] at ht'
      exact he.beyond t ht' hl
  | some d =>
    have hlt := hd d rfl
    refine ⟨fun t i ht => ?_, fun t ht hl => ?_⟩
    · rw [getD_put hlt]
      simp only [posOf] at ht
      cases hb : Nat.beq d t with
      | true =>
        rw [hb] at ht
        cases ht
        have := Nat.eq_of_beq_eq_true hb
        rw [if_pos this.symm]
        exact hv
      | false =>
        rw [hb] at ht
        have hne : d ≠ t := Nat.ne_of_beq_eq_false hb
        rw [if_neg (Ne.symm hne)]
        have ht' : posOf t ds (0 + 1) = some i := ht
        rw [posOf_succ, Option.map_eq_some_iff] at ht'
        obtain ⟨j, hj, rfl⟩ := ht'
        exact he.here t j hj
    · rw [getD_put hlt]
      simp only [posOf] at ht
      cases hb : Nat.beq d t with
      | true => rw [hb] at ht; cases ht
      | false =>
        rw [hb] at ht
        have hne : d ≠ t := Nat.ne_of_beq_eq_false hb
        rw [if_neg (Ne.symm hne)]
        have ht' : posOf t ds (0 + 1) = none := ht
        rw [posOf_succ, Option.map_eq_none_iff] at ht'
        exact he.beyond t ht' hl

/-! ### One operation -/
theorem newK_ok {s : Sem Value} {o : AObj} {mk : Nat → AV} {k : KV} (hr : Rel Y E ρ h w) (hm : Makes Y E ρ w s o mk) (hk : newK h o mk k = true) : BigPost Y E ρ h w k ((do pure (.value (← s)) : Sem Next).run E.P w) := by
  obtain ⟨ob, cv, h1, h2, h3⟩ := hm
  unfold newK at hk
  cases hn : h.new o with
  | mk b h' =>
    rw [hn] at hk
    obtain ⟨ρ', k1, k2⟩ := Goes.new_ptr hr hn h2
    rw [run_v h1]
    exact ⟨ρ', h', mk b, k1, h3 ρ' b k1.le k2, hk⟩

theorem stepK_big (hE : EnvOk Y E) {rc : Rec} (hrc : RecOk Y E rc) (hr : Rel Y E ρ h w) (hg : Glob E ρ) {L : Lv} (hng : L.ng = E.ng) {ds : List (Option Tmp)} {env : List AV} {tm : T AV} {a : Act} (he : ERel Y ρ L ds env tm a.tmps) {o : Oper} {k : KV}
    (hk : (stepK L ds (cOp E o.op)).run rc tm env h k = true) : BigPost Y E ρ h w k ((execOp a.eval o).run E.P w) := by
  have hok := cOp_ok (Y := Y) hE o
  cases hc : cOp E o.op with
  | p1 x g =>
    rw [hc] at hk hok
    simp only [stepK] at hk
    cases hx : cX L ds x with
    | none => rw [hx] at hk; cases hk
    | some X =>
      rw [hx] at hk
      dsimp only at hk
      obtain ⟨v, hv, hk⟩ := optK_eq.1 hk
      obtain ⟨cv, k1, k2⟩ := hok ρ a.eval w _ v (cX_ok hx he hg hng) hv
      rw [k1]
      exact ⟨ρ, h, v, Goes.refl hr, k2, hk⟩
  | p2 x y g =>
    rw [hc] at hk hok
    simp only [stepK] at hk
    cases hx : cX L ds x with
    | none => rw [hx] at hk; cases hk
    | some X =>
      cases hy : cX L ds y with
      | none => rw [hx, hy] at hk; cases hk
      | some Z =>
        rw [hx, hy] at hk
        dsimp only at hk
        obtain ⟨v, hv, hk⟩ := optK_eq.1 hk
        obtain ⟨cv, k1, k2⟩ := hok ρ a.eval w _ _ v (cX_ok hx he hg hng) (cX_ok hy he hg hng) hv
        rw [k1]
        exact ⟨ρ, h, v, Goes.refl hr, k2, hk⟩
  | pn xs g =>
    rw [hc] at hk hok
    simp only [stepK] at hk
    cases hx : cXs L ds xs with
    | none => rw [hx] at hk; cases hk
    | some X =>
      rw [hx] at hk
      dsimp only at hk
      obtain ⟨v, hv, hk⟩ := optK_eq.1 hk
      obtain ⟨cv, k1, k2⟩ := hok ρ a.eval w _ v (cXs_ok he hg hng hx) hv
      rw [k1]
      exact ⟨ρ, h, v, Goes.refl hr, k2, hk⟩
  | r1 x g =>
    rw [hc] at hk hok
    simp only [stepK] at hk
    cases hx : cX L ds x with
    | none => rw [hx] at hk; cases hk
    | some X =>
      rw [hx] at hk
      dsimp only at hk
      obtain ⟨v, hv, hk⟩ := optK_eq.1 hk
      obtain ⟨cv, k1, k2⟩ := hok.2 ρ a.eval w h _ v hr (cX_ok hx he hg hng) hv
      rw [k1]
      exact ⟨ρ, h, v, Goes.refl hr, k2, hk⟩
  | r2 x y g =>
    rw [hc] at hk hok
    simp only [stepK] at hk
    cases hx : cX L ds x with
    | none => rw [hx] at hk; cases hk
    | some X =>
      cases hy : cX L ds y with
      | none => rw [hx, hy] at hk; cases hk
      | some Z =>
        rw [hx, hy] at hk
        dsimp only at hk
        obtain ⟨v, hv, hk⟩ := optK_eq.1 hk
        obtain ⟨cv, k1, k2⟩ := hok.2 ρ a.eval w h _ _ v hr (cX_ok hx he hg hng) (cX_ok hy he hg hng) hv
        rw [k1]
        exact ⟨ρ, h, v, Goes.refl hr, k2, hk⟩
  | rn xs bk g =>
    rw [hc] at hk hok
    simp only [stepK] at hk
    cases hx : cXs L ds xs with
    | none => rw [hx] at hk; cases hk
    | some X =>
      rw [hx] at hk
      dsimp only at hk
      obtain ⟨v, hv, hk⟩ := optK_eq.1 hk
      obtain ⟨cv, k1, k2⟩ := hok.2.2 ρ a.eval w h _ v hr (cXs_ok he hg hng hx) hv
      rw [k1]
      exact ⟨ρ, h, v, Goes.refl hr, k2, hk⟩
  | a1 x g =>
    rw [hc] at hk hok
    simp only [stepK] at hk
    cases hx : cX L ds x with
    | none => rw [hx] at hk; cases hk
    | some X =>
      rw [hx] at hk
      dsimp only at hk
      obtain ⟨ob, hv, hk⟩ := optK_eq.1 hk
      obtain ⟨s, k1, k2⟩ := hok ρ a.eval w _ ob (cX_ok hx he hg hng) hv
      rw [k1]
      exact newK_ok hr k2 hk
  | an xs g =>
    rw [hc] at hk hok
    simp only [stepK] at hk
    cases hx : cXs L ds xs with
    | none => rw [hx] at hk; cases hk
    | some X =>
      rw [hx] at hk
      dsimp only at hk
      obtain ⟨p, hv, hk⟩ := optK_eq.1 hk
      obtain ⟨s, k1, k2⟩ := hok ρ a.eval w _ p (cXs_ok he hg hng hx) hv
      rw [k1]
      exact newK_ok hr k2 hk
  | b2 x y g =>
    rw [hc] at hk hok
    simp only [stepK] at hk
    cases hx : cX L ds x with
    | none => rw [hx] at hk; cases hk
    | some X =>
      cases hy : cX L ds y with
      | none => rw [hx, hy] at hk; cases hk
      | some Z =>
        rw [hx, hy] at hk
        dsimp only at hk
        obtain ⟨h', hv, hk⟩ := optK_eq.1 hk
        obtain ⟨w', k1, k2⟩ := hok ρ a.eval w h h' _ _ hr (cX_ok hx he hg hng) (cX_ok hy he hg hng) hv
        rw [k1]
        exact ⟨ρ, h', undefA, k2, rfl, hk⟩
  | bn xs g =>
    rw [hc] at hk hok
    simp only [stepK] at hk
    cases hx : cXs L ds xs with
    | none => rw [hx] at hk; cases hk
    | some X =>
      rw [hx] at hk
      exact hok rc k ρ a.eval w h _ hrc hr hg (cXs_ok he hg hng hx) hk
  | df xs g => rw [hc] at hk; cases hk
  | bad => rw [hc] at hk; cases hk

theorem stepK_not_defer {rc : Rec} {L : Lv} {ds : List (Option Tmp)} {env : List AV} {tm : T AV} {o : Oper} {k : KV} (hk : (stepK L ds (cOp E o.op)).run rc tm env h k = true) : ∀ c, o.op ≠ .defer c := by
  intro c ho
  rw [ho] at hk
  cases hc : c.callee <;> (simp only [cOp, hc] at hk; cases hk)

theorem upon_of_big {o : Oper} {a : Act} {k : KV} {r : Result Next} {ro : Option Nat} {n : Nat} {next : Act → World → Prop} {Q : Exit → Act → World → Prop} (hb : BigPost Y E ρ h w k r)
    (hnext : ∀ v w', PostV Y E ρ h w k (.returned v) w' → next (a.put o.dst v) w') : o.uponIn (fence ro) n E.P a next Q r := by
  cases r with
  | halt x w' => exact hb.elim
  | ok x w' =>
    cases x <;> first | exact hb.elim | skip
    case value v => exact hnext v w' hb
    case skip => exact hnext undef w' hb
    case enter f args =>
      refine ⟨(fun h => by cases h), ?_⟩
      exact CallsIn.mono (hb (n - 1)) fun e w'' he => by
        cases e with
        | returned v => exact hnext v w'' he
        | panicked c => exact he.elim
        | outgrown => exact he.elim
    case round l f tmps as b =>
      refine ⟨(fun h => by cases h), ?_⟩
      exact RoundIn.mono (hb (n - 1)) fun e w'' he => by
        cases e with
        | returned v => exact hnext v w'' he
        | panicked c => exact he.elim
        | outgrown => exact he.elim

/-! ### Guards -/
theorem wanted_of {ops : Array Oper} {o : Oper} {L : Lv} {ds : List (Option Tmp)} {env : List AV} {tm : T AV} {a : Act} {d : Tmp} {want : Bool} {X : X} {b : Bool} (hg : Glob E ρ) (hng : L.ng = E.ng) (he : ERel Y ρ L ds env tm a.tmps)
    (hgu : guardOf ops.toList o.guard = some (some (d, want))) (hx : cX L ds (.tmp d) = some X) (hw : isWanted want (X tm env) = some b) : Region.wanted o (yielded ops a.tmps) = b := by
  have hv := cX_ok hx he hg hng
  unfold guardOf at hgu
  split at hgu
  · cases hgu
  · rename_i j want' hgd
    rw [bnd_eq] at hgu
    obtain ⟨o', ho', hgu⟩ := hgu
    rw [bnd_eq] at hgu
    obtain ⟨d', hd', hgu⟩ := hgu
    cases hgu
    have ho2 : ops[j]? = some o' := by rw [← Array.getElem?_toList]; exact ho'
    have hv' : conc Y ρ (X tm env) = some (a.tmps.getD d undef) := hv
    unfold isWanted at hw
    split at hw
    · rename_i bb hbb
      rw [hbb] at hv'
      simp only [conc, Option.some.injEq] at hv'
      have hget : a.tmps[d]? = some (.bool bb) := by
        rw [Array.getD_eq_getD_getElem?] at hv'
        cases hq : a.tmps[d]? with
        | none => rw [hq] at hv'; cases hv'
        | some u => rw [hq] at hv'; exact congrArg some hv'.symm
      cases hw
      unfold Region.wanted
      rw [hgd]
      simp only [yielded, ho2, Option.bind_some, hd', hget]
      cases bb <;> cases want <;> rfl
    · rename_i hbb
      cases hw
      rw [hbb] at hv'
      have hu : a.tmps.getD d undef = undef := by
        simp only [conc, concs, Option.some.injEq] at hv'
        exact hv'.symm
      unfold Region.wanted
      rw [hgd]
      simp only [yielded, ho2, Option.bind_some, hd']
      cases hq : a.tmps[d]? with
      | none => rfl
      | some u =>
        have : u = undef := by
          rw [Array.getD_eq_getD_getElem?, hq] at hu
          exact hu
        subst this
        rfl
    · cases hw

end
end Go.AE
