/-
  One operation: what each class of operations does.
-/
import Derived.Test.YtmebfcdgbjkcfaaGreatDoorAeNext
import Derived.RangeFuncLeaves
namespace Go.AE

/-- the program's own variables lie at the heap's start -/
def Glob (E : Env) (ρ : Rho) : Prop := ∀ g, g < E.ng → ∃ c, ρ g = some ⟨g, 0, c⟩

theorem Glob.mono {E : Env} {ρ ρ' : Rho} (h : Glob E ρ) (hle : ρ.le ρ') : Glob E ρ' := fun g hg => let ⟨c, hc⟩ := h g hg; ⟨c, hle _ _ hc⟩

/-- a value is handed over, and the heap has gone on -/
def PostV (Y : Sy) (E : Env) (ρ : Rho) (h : H) (w : World) (k : KV) : Ending → World → Prop
  | .returned v, w' => ∃ ρ' h' av, Goes Y E ρ h w ρ' h' w' ∧ conc Y ρ' av = some v ∧ k av h' = true
  | _, _ => False

/-- what the calls of the evaluator are worth -/
def RecOk (Y : Sy) (E : Env) (rc : Rec) : Prop :=
  ∀ (tgt : Tgt) (args : List AV) (h : H) (k : KV) (ρ : Rho) (w : World) (cargs : List Value), Rel Y E ρ h w → Glob E ρ → concs Y ρ args = some cargs → rc tgt args h k = true →
    match tgt with
    | .fn f => (callFunc f cargs.toArray).run E.P w = .ok (.enter f cargs.toArray) w ∧ ∀ n, CallsIn Fence.wide n E.P f cargs.toArray w (PostV Y E ρ h w k)
    | .yield l => ∃ L f tmps as b, ρ l = some L ∧ (Instr.yield L.blk cargs.toArray).run E.P w = .ok (.round L.blk f tmps as b) w ∧ ∀ n, RoundIn Fence.wide n E.P L.blk f tmps as b w (PostV Y E ρ h w k)
    | .dfn f => (callFunc f cargs.toArray).run E.P w = .ok (.enter f cargs.toArray) w ∧ ∀ n u, CallsDIn Fence.wide n E.P f cargs.toArray u w fun e u' w' => u' = u ∧ PostV Y E ρ h w k e w'

/-- what comes of an operation that may call -/
def BigPost (Y : Sy) (E : Env) (ρ : Rho) (h : H) (w : World) (k : KV) : Result Next → Prop
  | .ok (.value v) w' => PostV Y E ρ h w k (.returned v) w'
  | .ok .skip w' => PostV Y E ρ h w k (.returned undef) w'
  | .ok (.enter f args) w' => ∀ n, CallsIn Fence.wide n E.P f args w' (PostV Y E ρ h w k)
  | .ok (.round l f tmps as b) w' => ∀ n, RoundIn Fence.wide n E.P l f tmps as b w' (PostV Y E ρ h w k)
  | _ => False

/-- two heaps that agree on the blocks of a value -/
def SameAt (a : AV) (h h' : H) : Prop := ∀ b ∈ blkOf a, h'.get b = h.get b

def KOk (Y : Sy) (E : Env) (o : Oper) : K → Prop
  | .p1 x g => ∀ (ρ : Rho) (ev : Operand → Value) (w : World) (a v : AV), conc Y ρ a = some (ev x) → g a = some v → ∃ cv, (execOp ev o).run E.P w = .ok (.value cv) w ∧ conc Y ρ v = some cv
  | .p2 x y g => ∀ (ρ : Rho) (ev : Operand → Value) (w : World) (a b v : AV), conc Y ρ a = some (ev x) → conc Y ρ b = some (ev y) → g a b = some v → ∃ cv, (execOp ev o).run E.P w = .ok (.value cv) w ∧ conc Y ρ v = some cv
  | .pn xs g => ∀ (ρ : Rho) (ev : Operand → Value) (w : World) (l : List AV) (v : AV), concs Y ρ l = some (xs.map ev) → g l = some v → ∃ cv, (execOp ev o).run E.P w = .ok (.value cv) w ∧ conc Y ρ v = some cv
  | .r1 x g => (∀ a h h', SameAt a h h' → g a h' = g a h) ∧
      ∀ (ρ : Rho) (ev : Operand → Value) (w : World) (h : H) (a v : AV), Rel Y E ρ h w → conc Y ρ a = some (ev x) → g a h = some v → ∃ cv, (execOp ev o).run E.P w = .ok (.value cv) w ∧ conc Y ρ v = some cv
  | .r2 x y g => (∀ a b h h', SameAt a h h' → g a b h' = g a b h) ∧
      ∀ (ρ : Rho) (ev : Operand → Value) (w : World) (h : H) (a b v : AV), Rel Y E ρ h w → conc Y ρ a = some (ev x) → conc Y ρ b = some (ev y) → g a b h = some v → ∃ cv, (execOp ev o).run E.P w = .ok (.value cv) w ∧ conc Y ρ v = some cv
  | .rn xs bk g => (∀ l h h', (∀ b ∈ bk l, h'.get b = h.get b) → g l h' = g l h) ∧ (∀ (ρ : Rho) l cs, concs Y ρ l = some cs → ∀ b ∈ bk l, ∃ L, ρ b = some L) ∧
      ∀ (ρ : Rho) (ev : Operand → Value) (w : World) (h : H) (l : List AV) (v : AV), Rel Y E ρ h w → concs Y ρ l = some (xs.map ev) → g l h = some v → ∃ cv, (execOp ev o).run E.P w = .ok (.value cv) w ∧ conc Y ρ v = some cv
  | .a1 x g => ∀ (ρ : Rho) (ev : Operand → Value) (w : World) (a : AV) (ob : AObj), conc Y ρ a = some (ev x) → g a = some ob → ∃ s, execOp ev o = (do pure (.value (← s)) : Sem Next) ∧ Makes Y E ρ w s ob fun b => .ptr b 0
  | .an xs g => ∀ (ρ : Rho) (ev : Operand → Value) (w : World) (l : List AV) (p : AObj × (Nat → AV)), concs Y ρ l = some (xs.map ev) → g l = some p → ∃ s, execOp ev o = (do pure (.value (← s)) : Sem Next) ∧ Makes Y E ρ w s p.1 p.2
  | .b2 x y g => ∀ (ρ : Rho) (ev : Operand → Value) (w : World) (h h' : H) (a b : AV), Rel Y E ρ h w → conc Y ρ a = some (ev x) → conc Y ρ b = some (ev y) → g a b h = some h' → ∃ w', (execOp ev o).run E.P w = .ok .skip w' ∧ Goes Y E ρ h w ρ h' w'
  | .bn xs g => ∀ (rc : Rec) (k : KV) (ρ : Rho) (ev : Operand → Value) (w : World) (h : H) (l : List AV), RecOk Y E rc → Rel Y E ρ h w → Glob E ρ → concs Y ρ l = some (xs.map ev) → g rc l h k = true → BigPost Y E ρ h w k ((execOp ev o).run E.P w)
  | .df xs g => (∃ c, o.op = .defer c) ∧ ∀ (ρ : Rho) (ev : Operand → Value) (w : World) (l : List AV) (v : AV), concs Y ρ l = some (xs.map ev) → g l = some v →
      ∃ fn fn' first cap cfirst ccap, v = .func fn first cap ∧ concFn ρ fn = some fn' ∧ concs Y ρ first = some cfirst ∧ concs Y ρ cap = some ccap ∧ (execOp ev o).run E.P w = .ok (.defer { target := .fn fn' ccap.toArray, args := cfirst.toArray }) w
  | .bad => True

section
variable {Y : Sy} {E : Env} {ρ : Rho} {h : H} {w : World}

theorem run_v {α : Type} {P : Program} {s : Sem α} {f : α → Next} {a : α} {w' : World} (h : s.run P w = .ok a w') : (do pure (f (← s)) : Sem Next).run P w = .ok (f a) w' := by
  simp only [Sem.run_bind, h, Result.andThen_ok, Sem.run_pure]

theorem run_u {P : Program} {s : Sem Unit} {w' : World} (h : s.run P w = .ok () w') : (do s; pure .skip : Sem Next).run P w = .ok .skip w' := by
  simp only [Sem.run_bind, h, Result.andThen_ok, Sem.run_pure]

theorem Yields.next {s : Sem Value} {v : AV} (h : Yields Y E ρ w s v) : ∃ cv, (do pure (.value (← s)) : Sem Next).run E.P w = .ok (.value cv) w ∧ conc Y ρ v = some cv :=
  let ⟨cv, h1, h2⟩ := h; ⟨cv, run_v h1, h2⟩

theorem Acts.big {s : Sem Value} {v : AV} {h' : H} {k : KV} (ha : Acts Y E ρ h w s v h') (hk : k v h' = true) : BigPost Y E ρ h w k ((do pure (.value (← s)) : Sem Next).run E.P w) := by
  obtain ⟨cv, w', ρ', h1, h2, h3⟩ := ha
  rw [run_v h1]
  exact ⟨ρ', h', v, h2, h3, hk⟩

theorem parts_rel {ev : Operand → Value} : ∀ (ps : List (Nat × Operand)) (l : List AV), concs Y ρ l = some ((snds ps).map ev) → PartsRel Y ρ (zipIdx (fsts ps) l) (ps.map fun p => (p.1, ev p.2))
  | [], l, h => by
    have : l = [] := by
      cases l with
      | nil => rfl
      | cons v r => obtain ⟨_, _, _, _, e⟩ := concs_cons.1 h; cases e
    subst this
    trivial
  | (i, x) :: r, l, h => by
    cases l with
    | nil => rw [concs_nil] at h; cases h
    | cons v l =>
      obtain ⟨cv, cr, h1, h2, e⟩ := concs_cons.1 h
      simp only [snds, List.map_cons, List.cons.injEq] at e
      obtain ⟨rfl, rfl⟩ := e
      exact ⟨rfl, h1, parts_rel r l h2⟩

theorem concs_pair {a b : AV} {x y : Value} (h : concs Y ρ [a, b] = some [x, y]) : conc Y ρ a = some x ∧ conc Y ρ b = some y := by
  obtain ⟨_, _, h1, h2, e⟩ := concs_cons.1 h
  obtain ⟨_, _, h3, _, e'⟩ := concs_cons.1 h2
  cases e
  cases e'
  exact ⟨h1, h3⟩

theorem concs_pop {v : AV} {r : List AV} {x : Value} {cs : List Value} (h : concs Y ρ (v :: r) = some (x :: cs)) : conc Y ρ v = some x ∧ concs Y ρ r = some cs := by
  obtain ⟨_, _, h1, h2, e⟩ := concs_cons.1 h
  cases e
  exact ⟨h1, h2⟩

theorem takeO_ok {ev : Operand → Value} {a : Option Operand} {l : List AV} {cs : List Value} (h : concs Y ρ l = some ((optL a).map ev ++ cs)) :
    OptRel Y ρ (takeO a l).1 (a.map ev) ∧ concs Y ρ (takeO a l).2 = some cs := by
  cases a with
  | none =>
    have e : takeO none l = (none, l) := by cases l <;> rfl
    rw [e]
    exact ⟨trivial, by simpa [optL] using h⟩
  | some x =>
    cases l with
    | nil => rw [concs_nil] at h; simp [optL] at h
    | cons v r =>
      have h' : concs Y ρ (v :: r) = some (ev x :: cs) := by simpa [optL] using h
      obtain ⟨h1, h2⟩ := concs_pop h'
      exact ⟨h1, h2⟩

theorem get_same {b : Nat} {h h' : H} (e : h'.get b = h.get b) (o : Nat) : loadCellA h' b o = loadCellA h b o := by
  unfold loadCellA; rw [e]

theorem gets_same {b : Nat} {h h' : H} (e : h'.get b = h.get b) (o n : Nat) : loadCellsA h' b o n = loadCellsA h b o n := by
  unfold loadCellsA; rw [e]

theorem loadP_same {t : TypeId} {a : AV} {h h' : H} (hs : SameAt a h h') : loadP E t a h' = loadP E t a h := by
  unfold loadP
  cases E.und t with
  | none => rfl
  | some d =>
    dsimp only
    cases isAggD d with
    | false =>
      dsimp only
      cases hp : asP a with
      | none => rfl
      | some p =>
        dsimp only
        rw [asP_eq hp] at hs
        exact get_same (hs p.1 (by simp [blkOf])) _
    | true =>
      dsimp only
      cases E.size t with
      | none => rfl
      | some n =>
        dsimp only
        cases hp : asP a with
        | none => rfl
        | some p =>
          dsimp only
          rw [asP_eq hp] at hs
          rw [gets_same (hs p.1 (by simp [blkOf]))]

theorem lenA_same {t : TypeId} {a : AV} {h h' : H} (hs : SameAt a h h') : lenA E h' t a = lenA E h t a := by
  unfold lenA
  split <;> first | rfl | skip
  rw [hs _ (by simp [blkOf])]

theorem lookupK_same {t : TypeId} {a b : AV} {ok : Bool} {h h' : H} (hs : SameAt a h h') : lookupK E h' t a b ok = lookupK E h t a b ok := by
  unfold lookupK
  split
  · split
    · rfl
    · split
      · rfl
      · split
        · rfl
        · rw [hs _ (by simp [blkOf])]
        · rfl
  · rfl

theorem lookupS_same {t : TypeId} {a b : AV} {ok : Bool} {h h' : H} (hs : SameAt a h h') : lookupS E h' t a b ok = lookupS E h t a b ok := by
  unfold lookupS
  split
  · rw [hs _ (by simp [blkOf])]
  · rfl

theorem lookupA_same {t : TypeId} {a b : AV} {ok : Bool} {h h' : H} (hs : SameAt a h h') : lookupA E h' t a b ok = lookupA E h t a b ok := by
  unfold lookupA
  rw [lookupK_same hs, lookupS_same hs]

theorem findMethod_find {name : String} : ∀ {ms : List Method} {m : Method}, findMethod name ms = some m → ms.find? (·.name == name) = some m
  | [], _, h => by cases h
  | x :: r, m, h => by
    simp only [findMethod] at h
    cases hd : decide (x.name = name) with
    | true =>
      rw [hd] at h
      cases h
      have := of_decide_eq_true hd
      simp [this]
    | false =>
      rw [hd] at h
      have := of_decide_eq_false hd
      simp only [List.find?_cons]
      have e : (x.name == name) = false := by simpa using this
      rw [e]
      exact findMethod_find h

theorem follow_ok (hE : EnvOk Y E) : ∀ (p : List FieldStep) (t : TypeId) (v : AV) (cv : Value) (xt : TypeId) (x : AV), conc Y ρ v = some cv → followA E p t v = some (xt, x) →
    ∃ cx, (follow p t (.val cv)).run E.P w = .ok (xt, .val cx) w ∧ (followBlind p t (some cv)).run E.P w = .ok (.ok (xt, some cx)) w ∧ conc Y ρ x = some cx
  | [], t, v, cv, xt, x, hv, hf => by
    cases hf
    exact ⟨cv, rfl, rfl, hv⟩
  | s :: r, t, v, cv, xt, x, hv, hf => by
    simp only [followA] at hf
    split at hf
    · rename_i fields l hd hu
      obtain ⟨cs, h1, rfl, h2⟩ := conc_agg hv
      split at hf
      · rename_i f hff
        rw [bnd_eq] at hf
        obtain ⟨v', hp, hf⟩ := hf
        obtain ⟨cv', k1, k2⟩ := part_ok (w := w) hE hp h1 h2
        obtain ⟨cx, k3, k4, k5⟩ := follow_ok hE r f.type v' cv' xt x k2 hf
        have hff' : fields[s.index]? = some f := by rw [← Array.getElem?_toList]; exact hff
        refine ⟨cx, ?_, ?_, k5⟩
        · simp only [follow, Sem.run_bind, run_und hE hu, Result.andThen_ok, hff', hd, Bool.false_eq_true, if_false, k1, k3]
        · simp only [followBlind, Sem.run_bind, run_und hE hu, Result.andThen_ok, hff', hd, k1, k4]
      · cases hf
    · cases hf

theorem recv_ok (hE : EnvOk Y E) {t : TypeId} {name : String} {v v' : AV} {cv : Value} {f : FuncId} (hv : conc Y ρ v = some cv) (hm : recvA E t name v = some (f, v')) :
    ∃ cv', (method (E.P.types.size + Made.depth) t cv name).run E.P w = .ok (f, cv') w ∧ (nilAhead (E.P.types.size + Made.depth) t cv name).run E.P w = .ok (some false) w ∧ conc Y ρ v' = some cv' := by
  unfold recvA at hm
  rw [bnd_eq] at hm
  obtain ⟨i, hi, hm⟩ := hm
  rw [bnd_eq] at hm
  obtain ⟨m, hfm, hm⟩ := hm
  rw [bnd_eq] at hm
  obtain ⟨⟨xt, x⟩, hfo, hm⟩ := hm
  obtain ⟨cx, k1, k2, k3⟩ := follow_ok (w := w) hE _ _ _ _ _ _ hv hfo
  obtain ⟨n, hn⟩ : ∃ n, E.P.types.size + Made.depth = n + 1 := ⟨E.P.types.size + Made.depth - 1, by have := hE.some_types; omega⟩
  rw [hn]
  have hfind : i.methods.find? (·.name == name) = some m := by
    rw [← Array.find?_toList]
    exact findMethod_find hfm
  split at hm
  · rename_i f' e hf hu
    cases hm
    refine ⟨cx, ?_, ?_, k3⟩
    · simp only [method, Sem.run_bind, run_info hE hi, Result.andThen_ok, hfind, k1, hf, receiverAt, run_und hE hu, Place.get, Sem.run_pure]
    · simp only [nilAhead, Sem.run_bind, run_info hE hi, Result.andThen_ok, hfind, k2, hf, Sem.run_pure]
  · cases hm
  · cases hm
  · rename_i f' d hno hf hu
    cases hm
    refine ⟨cx, ?_, ?_, k3⟩
    · simp only [method, Sem.run_bind, run_info hE hi, Result.andThen_ok, hfind, k1, hf, receiverAt, run_und hE hu]
      cases d <;> first | (simp [Place.get]; done) | exact absurd rfl (hno _)
    · simp only [nilAhead, Sem.run_bind, run_info hE hi, Result.andThen_ok, hfind, k2, hf, run_und hE hu]
      cases d <;> first | (simp; done) | exact absurd rfl (hno _)
  · cases hm

/-- a method of an interface value is called -/
theorem methodV_ok (hE : EnvOk Y E) {rc : Rec} {k : KV} {name : String} {l : List AV} {cs : List Value} (hrc : RecOk Y E rc) (hr : Rel Y E ρ h w) (hg : Glob E ρ) (hl : concs Y ρ l = some cs) (hc : methodV E name rc l h k = true) (cap : Array Value) :
    BigPost Y E ρ h w k ((invoke (.fn (.method name) cap) cs.toArray).run E.P w) := by
  unfold methodV at hc
  split at hc
  · rename_i t v args
    obtain ⟨c0, cr, h1, h2, rfl⟩ := concs_cons.1 hl
    obtain ⟨cv, h3, rfl⟩ := conc_iface h1
    obtain ⟨⟨f, v'⟩, hm, hk⟩ := optK_eq.1 hc
    obtain ⟨cv', k1, _, k2⟩ := recv_ok (w := w) hE h3 hm
    have hall : concs Y ρ (v' :: args) = some (cv' :: cr) := concs_cons.2 ⟨_, _, k2, h2, rfl⟩
    obtain ⟨g1, g2⟩ := hrc (.fn f) _ h k ρ w _ hr hg hall hk
    have e2 : (Value.iface t cv :: cr).toArray[0]? = some (.iface t cv) := by simp
    have e3 : (Value.iface t cv :: cr).toArray.extract 1 (Value.iface t cv :: cr).toArray.size = cr.toArray := by
      apply Array.ext'
      simp only [Array.toList_extract, List.extract]
      simp
    have e4 : #[cv'] ++ cr.toArray = (cv' :: cr).toArray := by simp
    simp only [invoke, e2, e3, callMethod, Sem.run_bind, run_program, Result.andThen_ok, k1, e4, g1]
    exact g2
  · cases hc

theorem callV_ok (hE : EnvOk Y E) {rc : Rec} {k : KV} {fv : AV} {args : List AV} {cf : Value} {cargs : List Value} (hrc : RecOk Y E rc) (hr : Rel Y E ρ h w) (hg : Glob E ρ) (hf : conc Y ρ fv = some cf) (ha : concs Y ρ args = some cargs) (hc : callV E rc fv args h k = true) :
    BigPost Y E ρ h w k ((do let d ← Deferred.ofValue cf cargs.toArray; invoke d.target d.args : Sem Next).run E.P w) := by
  unfold callV at hc
  split at hc
  · rename_i fn first cap
    simp only [conc] at hf
    split at hf
    · rename_i fn' cfirst ccap e1 e2 e3
      cases hf
      split at hc
      · rename_i f
        cases e1
        have hall : concs Y ρ (first ++ (args ++ cap)) = some (cfirst ++ (cargs ++ ccap)) := concs_append.2 ⟨_, _, e2, concs_append.2 ⟨_, _, ha, e3, rfl⟩, rfl⟩
        obtain ⟨h1, h2⟩ := hrc (.fn f) _ h k ρ w _ hr hg hall hc
        simp only [Deferred.ofValue, Sem.run_bind, Sem.run_pure, Result.andThen_ok, invoke]
        have e : cfirst.toArray ++ cargs.toArray ++ ccap.toArray = (cfirst ++ (cargs ++ ccap)).toArray := by simp
        rw [e, h1]
        exact h2
      · rename_i l
        split at hc
        · cases e2
          cases e3
          simp only [concFn, Option.map_eq_some_iff] at e1
          obtain ⟨L, hL, rfl⟩ := e1
          obtain ⟨L', f, tmps, as, b, h0, h1, h2⟩ := hrc (.yield l) _ h k ρ w _ hr hg ha hc
          rw [hL] at h0
          cases h0
          simp only [Deferred.ofValue, Sem.run_bind, Sem.run_pure, Result.andThen_ok, invoke]
          have e : ([] : List Value).toArray ++ cargs.toArray = cargs.toArray := by simp
          rw [e, h1]
          exact h2
        · cases hc
      · rename_i name
        cases e1
        have hall : concs Y ρ (first ++ args) = some (cfirst ++ cargs) := concs_append.2 ⟨_, _, e2, ha, rfl⟩
        have := methodV_ok hE hrc hr hg hall hc ccap.toArray
        simp only [Deferred.ofValue, Sem.run_bind, Sem.run_pure, Result.andThen_ok]
        have e : cfirst.toArray ++ cargs.toArray = (cfirst ++ cargs).toArray := by simp
        rw [e]
        exact this
      · cases hc
    · cases hf
  · cases hc

end
end Go.AE
