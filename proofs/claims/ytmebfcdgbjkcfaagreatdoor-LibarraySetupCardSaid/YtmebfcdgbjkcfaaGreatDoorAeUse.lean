/-
  The evaluator in use: tables, closed calls, what a row asks.
-/
import Derived.Test.YtmebfcdgbjkcfaaGreatDoorAeDr6
import Derived.Below
import Derived.ChangeSame
namespace Go.AE

def noNum (l : List Func) : Bool := l.all fun f => !(f.name == "runtime.NumGoroutine")
def eqsOk (P : Program) (eqs : List (TypeId × List Nat)) : Bool := eqs.all fun p => decide (flatAt P 20 p.1 = some p.2) && !P.eqGuardType P.depth p.1

noncomputable def envOf (P : Program) (eqs : List (TypeId × List Nat)) (ng : Nat) (facts : List (SX × Int × Int)) : Env := { P := P, ft := T.ofList P.funcs.toList, tt := T.ofList P.types.toList, eqs := eqs, facts := facts, ng := ng, orc := [] }

theorem findEq_mem : ∀ {l : List (TypeId × List Nat)} {t : TypeId} {ks : List Nat}, findEq l t = some ks → (t, ks) ∈ l
  | [], _, _, h => by cases h
  | (u, l) :: r, t, ks, h => by
    simp only [findEq] at h
    cases hb : Nat.beq u t with
    | true =>
      rw [hb] at h
      cases h
      have := Nat.eq_of_beq_eq_true hb
      subst this
      simp
    | false =>
      rw [hb] at h
      exact List.mem_cons_of_mem _ (findEq_mem h)

theorem envOk_of {Y : Sy} {P : Program} {eqs : List (TypeId × List Nat)} {ng : Nat} {facts : List (SX × Int × Int)} (h1 : noNum P.funcs.toList = true) (h2 : eqsOk P eqs = true) (h3 : P.follows .mixedOrders = true) (h4 : Nat.blt 0 P.types.size = true) (h5 : ∀ e l h, (e, l, h) ∈ facts → l ≤ e.val Y ∧ e.val Y ≤ h) : EnvOk Y (envOf P eqs ng facts) := by
  refine ⟨fun f fn h => ?_, fun t i h => ?_, h3, fun t ks h => ?_, fun f fn h _ => ?_, (blt_iff _ _).1 h4, h5, fun _ h => by cases h⟩
  · have h' : (T.ofList P.funcs.toList).get f = some fn := h
    rw [T.get_ofList, Array.getElem?_toList] at h'
    exact h'
  · have h' : (T.ofList P.types.toList).get t = some i := h
    rw [T.get_ofList, Array.getElem?_toList] at h'
    have hlt : t < P.types.size := by
      rcases Nat.lt_or_ge t P.types.size with h | h
      · exact h
      · rw [Array.getElem?_eq_none h] at h'; cases h'
    show P.info? t = some i
    unfold Tables.info?
    rw [if_pos hlt]
    exact h'
  · have hm := findEq_mem (show findEq eqs t = some ks from h)
    unfold eqsOk at h2
    rw [List.all_eq_true] at h2
    have := h2 _ hm
    simp only [Bool.and_eq_true, decide_eq_true_eq, Bool.not_eq_true'] at this
    exact this
  · have h' : (T.ofList P.funcs.toList).get f = some fn := h
    rw [T.get_ofList] at h'
    unfold noNum at h1
    rw [List.all_eq_true] at h1
    have := h1 fn (List.mem_of_getElem? h')
    simpa using this

/-- the tables, and what is known of single operations -/
noncomputable def envO (E : Env) (fs : List (SX × Int × Int)) (os : List Orc) : Env := { E with facts := fs, orc := os }

theorem envO_ok {Y : Sy} {E : Env} {fs : List (SX × Int × Int)} {os : List Orc} (h : EnvOk Y E) (h1 : ∀ e l h, (e, l, h) ∈ fs → l ≤ e.val Y ∧ e.val Y ≤ h) (h2 : ∀ q, q ∈ os → OrcOk Y q) : EnvOk Y (envO E fs os) :=
  ⟨h.ft, h.tt, h.mixed, h.eqs, h.named, h.some_types, h1, h2⟩

def isTrueA : AV → Bool
  | .bool b => b
  | _ => false

/-- a call that is evaluated with no heap at hand -/
theorem closed_run {Y : Sy} {E : Env} (hE : EnvOk Y E) (hng : E.ng = 0) {lf n : Nat} {f : FuncId} {args : List AV} {cargs : List Value} (hargs : concs Y (fun _ => none) args = some cargs)
    (hk : evGo E lf n (.fn f) args ⟨.nil, 0, [], []⟩ (fun v _ => isTrueA v) = true) (w : World) :
    Calls E.P f cargs.toArray w fun e w' => e = .returned (.bool true) ∧ RowKit.Below w.heap.size w w' := by
  have hr : Rel Y E (fun _ => none) ⟨.nil, 0, [], []⟩ w := by
    have hnone : ∀ b, H.get ⟨.nil, 0, [], []⟩ b = none := fun b => by rw [H.get_eq]; rfl
    refine ⟨fun b o h _ => ?_, fun b c o p L M h => ?_, fun _ _ => rfl, fun b L h => by cases h⟩
    · rw [hnone] at h; cases h
    · rw [hnone] at h; cases h
  have hg : Glob E (fun _ => none) := fun g h => by rw [hng] at h; exact absurd h (Nat.not_lt_zero _)
  obtain ⟨_, h2⟩ := evGo_ok (Y := Y) hE lf n (.fn f) args ⟨.nil, 0, [], []⟩ _ (fun _ => none) w cargs hr hg hargs hk
  refine callsIn_wide.1 (CallsIn.mono (h2 0) fun e w' h => ?_)
  cases e with
  | panicked c => exact h.elim
  | outgrown => exact h.elim
  | returned v =>
    obtain ⟨ρ', h', av, hgo, hv, ht⟩ := h
    dsimp only at ht
    unfold isTrueA at ht
    split at ht
    · subst ht
      cases hv
      refine ⟨rfl, hgo.frm.os, hgo.frm.tape, hgo.frm.output, hgo.frm.size, fun k hk' => hgo.frm.block k hk' fun b o L hb => ?_⟩
      rw [H.get_eq] at hb
      cases hb
    · cases ht

/-- behind a call that has left all that was there -/
theorem post_of_below {H : Type} {enc : TypeId × Value → H} {P : Program} {f : Func} {s : ChangeSpec} {apart fresh handsOn again : Bool} {W W' : World} {args : Array Value} {v : Value} {ds gs : List (DataW H)} {before pa pv : List MemPlace}
    (hW : DataW.Whole enc P f.params.toList s.vars apart W args.toList ds gs before)
    (hres : ∀ (b : Nat) (sp : Nat → Bool) (hd : Bool), DataW.TrodAll enc P W' b sp hd f.resultTypes.toList (v.resultList f.resultTypes.size) (s.fn H (ds ++ gs)).results [])
    (hargs : ∀ sp : Nat → Bool, (∀ p ∈ before, sp p.block = true) → DataW.TrodAll enc P W' 0 sp true f.params.toList args.toList (s.fn H (ds ++ gs)).args pa)
    (hvars : ∀ sp : Nat → Bool, (∀ p ∈ before, sp p.block = true) → DataW.TrodVars enc P W' sp s.vars (s.fn H (ds ++ gs)).vars pv)
    (hps : before = pa ++ pv) (hb : RowKit.Below W.heap.size W W')
    (hok : ∀ (j : Nat) (t : TypeId) (r : Value), f.resultTypes[j]? = some t → (v.resultList f.resultTypes.size)[j]? = some r → Value.okWide P W' .any 0 t r) :
    s.post enc P f apart fresh handsOn again W args v W' := by
  have hold : ∀ p ∈ before, (fun b => decide (b < W.heap.size)) p.block = true := fun p hp => by simpa using hW.lt p hp
  have hlt : ∀ p ∈ before, p.block < W.heap.size := fun p hp => hW.lt p hp
  refine ⟨ds, gs, before, [], pa, pv, hW, hres _ _ _, hargs _ hold, hvars _ hold, World.keptBut_mono (fun p hp => ⟨hp, ?_⟩) (hb.frame (· ∈ before)), fun _ => ?_⟩
  · rw [hps, List.mem_append] at hp
    exact Or.inr hp
  · obtain ⟨_, _, _, _, _, hz, hn⟩ := hW
    refine ⟨hok, _, _, ([] ++ pa) ++ pv, ⟨[] ++ pa, pv, ChangeShapes.trodAll_append (hargs _ (fun _ _ => rfl)) (hres _ _ _), hvars _ (fun _ _ => rfl), rfl, ?_, ?_⟩, ?_⟩
    · intro b off hp
      have hmem : MemPlace.cell b off ∈ before := by rw [hps]; simpa using hp
      rw [hb.frozen (p := ⟨b, off, none⟩) (hlt _ hmem)]
      exact hz b off hmem
    · intro ha
      have := hn ha
      rw [hps] at this
      simpa using this
    · intro p hp _
      rw [hps]
      simpa using hp

end Go.AE
