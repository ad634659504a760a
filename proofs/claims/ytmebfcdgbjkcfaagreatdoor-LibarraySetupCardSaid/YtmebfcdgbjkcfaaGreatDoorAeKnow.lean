/-
  Calls whose outcome is known already; runs with them.
-/
import Derived.Test.YtmebfcdgbjkcfaaGreatDoorAeUse
namespace Go.AE
noncomputable section

/-- two values of one cell without blocks -/
def sameC : AV → AV → Bool
  | .bool a, .bool b => eqB a b
  | .i64 a, .i64 b => eqI a b
  | .int k a, .int k' b => eqKind k k' && eqI a b
  | .str a, .str b => eqStr a b
  | .sint k e lo hi, .sint k' e' lo' hi' => eqKind k k' && (eqX e e' && (eqI lo lo' && eqI hi hi'))
  | .sstr i lo hi, .sstr j lo' hi' => Nat.beq i j && (Nat.beq lo lo' && Nat.beq hi hi')
  | .nilptr, .nilptr => true
  | .nilslice, .nilslice => true
  | .oslice i, .oslice j => Nat.beq i j
  | .opq i, .opq j => eqQ i j
  | _, _ => false

def sameCs : List AV → List AV → Bool
  | [], [] => true
  | a :: x, b :: y => sameC a b && sameCs x y
  | _, _ => false

def sameA : AV → AV → Bool
  | .agg l, .agg m => sameCs l m
  | x, y => sameC x y

def sameAs : List AV → List AV → Bool
  | [], [] => true
  | a :: x, b :: y => sameA a b && sameAs x y
  | _, _ => false

def sameV : AV → AV → Bool
  | .tuple l, .tuple m => sameAs l m
  | x, y => sameA x y

def sameVs : List AV → List AV → Bool
  | [], [] => true
  | a :: x, b :: y => sameV a b && sameVs x y
  | _, _ => false

theorem eqStr_true : ∀ {a b : List Nat}, eqStr a b = true → a = b
  | [], [], _ => rfl
  | a :: x, b :: y, h => by
    simp only [eqStr] at h
    cases hb : Nat.beq a b with
    | false => rw [hb] at h; cases h
    | true => rw [hb] at h; rw [Nat.eq_of_beq_eq_true hb, eqStr_true h]
  | [], _ :: _, h => by cases h
  | _ :: _, [], h => by cases h

section
variable {Y : Sy} {E : Env} {ρ : Rho} {h : H} {w : World}

theorem sameC_eq {a b : AV} (h : sameC a b = true) : a = b ∧ ∀ (ρ ρ' : Rho), conc Y ρ a = conc Y ρ' a := by
  unfold sameC at h
  split at h
  · rename_i a b
    cases a <;> cases b <;> first | exact ⟨rfl, fun _ _ => rfl⟩ | cases h
  · rw [eqI_iff] at h; subst h; exact ⟨rfl, fun _ _ => rfl⟩
  · simp only [Bool.and_eq_true] at h
    obtain ⟨h1, h2⟩ := h
    rw [eqI_iff] at h2
    rw [eqKind_eq h1, h2]
    exact ⟨rfl, fun _ _ => rfl⟩
  · rw [eqStr_true h]; exact ⟨rfl, fun _ _ => by simp only [conc]⟩
  · simp only [Bool.and_eq_true] at h
    obtain ⟨h1, h2, h3, h4⟩ := h
    rw [eqI_iff] at h3 h4
    rw [eqKind_eq h1, eqX_eq h2, h3, h4]
    exact ⟨rfl, fun _ _ => by simp only [conc]⟩
  · simp only [Bool.and_eq_true] at h
    obtain ⟨h1, h2, h3⟩ := h
    rw [Nat.eq_of_beq_eq_true h1, Nat.eq_of_beq_eq_true h2, Nat.eq_of_beq_eq_true h3]
    exact ⟨rfl, fun _ _ => by simp only [conc]⟩
  · exact ⟨rfl, fun _ _ => rfl⟩
  · exact ⟨rfl, fun _ _ => rfl⟩
  · rw [Nat.eq_of_beq_eq_true h]
    exact ⟨rfl, fun _ _ => by simp only [conc]⟩
  · rw [eqQ_eq h]
    exact ⟨rfl, fun _ _ => by simp only [conc]⟩
  · cases h

theorem sameCs_eq : ∀ {a b : List AV}, sameCs a b = true → a = b ∧ ∀ (ρ ρ' : Rho), concs Y ρ a = concs Y ρ' a
  | [], [], _ => ⟨rfl, fun _ _ => rfl⟩
  | a :: x, b :: y, h => by
    simp only [sameCs, Bool.and_eq_true] at h
    obtain ⟨h1, h2⟩ := sameC_eq (Y := Y) h.1
    obtain ⟨h3, h4⟩ := sameCs_eq h.2
    refine ⟨by rw [h1, h3], fun ρ ρ' => ?_⟩
    simp only [concs, h2 ρ ρ', h4 ρ ρ']
  | [], _ :: _, h => by cases h
  | _ :: _, [], h => by cases h

theorem sameA_eq {a b : AV} (h : sameA a b = true) : a = b ∧ ∀ (ρ ρ' : Rho), conc Y ρ a = conc Y ρ' a := by
  unfold sameA at h
  split at h
  · obtain ⟨h1, h2⟩ := sameCs_eq (Y := Y) h
    refine ⟨by rw [h1], fun ρ ρ' => ?_⟩
    simp only [conc, h2 ρ ρ']
  · exact sameC_eq h

theorem sameAs_eq : ∀ {a b : List AV}, sameAs a b = true → a = b ∧ ∀ (ρ ρ' : Rho), concs Y ρ a = concs Y ρ' a
  | [], [], _ => ⟨rfl, fun _ _ => rfl⟩
  | a :: x, b :: y, h => by
    simp only [sameAs, Bool.and_eq_true] at h
    obtain ⟨h1, h2⟩ := sameA_eq (Y := Y) h.1
    obtain ⟨h3, h4⟩ := sameAs_eq h.2
    refine ⟨by rw [h1, h3], fun ρ ρ' => ?_⟩
    simp only [concs, h2 ρ ρ', h4 ρ ρ']
  | [], _ :: _, h => by cases h
  | _ :: _, [], h => by cases h

theorem sameV_eq {a b : AV} (h : sameV a b = true) : a = b ∧ ∀ (ρ ρ' : Rho), conc Y ρ a = conc Y ρ' a := by
  unfold sameV at h
  split at h
  · obtain ⟨h1, h2⟩ := sameAs_eq (Y := Y) h
    refine ⟨by rw [h1], fun ρ ρ' => ?_⟩
    simp only [conc, h2 ρ ρ']
  · exact sameA_eq h

theorem sameVs_eq : ∀ {a b : List AV}, sameVs a b = true → a = b ∧ ∀ (ρ ρ' : Rho), concs Y ρ a = concs Y ρ' a
  | [], [], _ => ⟨rfl, fun _ _ => rfl⟩
  | a :: x, b :: y, h => by
    simp only [sameVs, Bool.and_eq_true] at h
    obtain ⟨h1, h2⟩ := sameV_eq (Y := Y) h.1
    obtain ⟨h3, h4⟩ := sameVs_eq h.2
    refine ⟨by rw [h1, h3], fun ρ ρ' => ?_⟩
    simp only [concs, h2 ρ ρ', h4 ρ ρ']
  | [], _ :: _, h => by cases h
  | _ :: _, [], h => by cases h

end

/-- a call whose outcome is known: it returns v and leaves all that was there -/
structure Known where
  f : FuncId
  args : List AV
  v : AV

def findK (f : FuncId) (args : List AV) : List Known → Option AV
  | [] => none
  | q :: r => (match Nat.beq q.f f with
    | true => (match sameVs args q.args with | true => some q.v | false => findK f args r)
    | false => findK f args r)

def evKn (E : Env) (kn : List Known) (lf n : Nat) : Rec :=
  Nat.rec (motive := fun _ => Rec) (fun _ _ _ _ => false)
    (fun _ ih tgt => match tgt with
      | .fn f => fun args h k => (match findK f args kn with | some v => k v h | none => (cFun E lf f).run ih args h k)
      | .yield l => fun args h k => yieldK E lf ih l args h k
      | .dfn f => fun args h k => (cFunD E lf f).run ih args h k) n


section
variable {Y : Sy} {E : Env} {ρ : Rho} {h : H} {w : World}

/-- what a call returns, having left all that was there -/
def Gives (Y : Sy) (E : Env) (f : FuncId) (args : List AV) (v : AV) : Prop :=
  ∀ (w : World) (cargs : List Value), concs Y (fun _ => none) args = some cargs → Calls E.P f cargs.toArray w fun e w' => ∃ cv, e = .returned cv ∧ conc Y (fun _ => none) v = some cv ∧ RowKit.Below w.heap.size w w'

def hasBody (E : Env) (f : FuncId) : Bool :=
  match E.ft.get f with
  | some fn => (match fn.body with | some _ => true | none => false)
  | none => false

def KnownOk (Y : Sy) (E : Env) (kn : List Known) : Prop := ∀ q ∈ kn, hasBody E q.f = true ∧ Gives Y E q.f q.args q.v

theorem KnownOk.nil : KnownOk Y E [] := fun q hq => by cases hq

theorem KnownOk.cons {q : Known} {kn : List Known} (hb : hasBody E q.f = true) (hg : Gives Y E q.f q.args q.v) (hk : KnownOk Y E kn) : KnownOk Y E (q :: kn) := by
  intro r hr
  rcases List.mem_cons.1 hr with rfl | hr
  · exact ⟨hb, hg⟩
  · exact hk r hr

theorem findK_mem {f : FuncId} {args : List AV} {v : AV} : ∀ {kn : List Known}, findK f args kn = some v → ∃ q ∈ kn, q.f = f ∧ sameVs args q.args = true ∧ q.v = v
  | [], h => by cases h
  | q :: r, h => by
    simp only [findK] at h
    cases hb : Nat.beq q.f f with
    | false =>
      rw [hb] at h
      obtain ⟨q', h1, h2⟩ := findK_mem h
      exact ⟨q', List.mem_cons_of_mem _ h1, h2⟩
    | true =>
      rw [hb] at h
      dsimp only at h
      cases hs : sameVs args q.args with
      | false =>
        rw [hs] at h
        obtain ⟨q', h1, h2⟩ := findK_mem h
        exact ⟨q', List.mem_cons_of_mem _ h1, h2⟩
      | true =>
        rw [hs] at h
        cases h
        exact ⟨q, by simp, Nat.eq_of_beq_eq_true hb, hs, rfl⟩

theorem evKn_ok (hE : EnvOk Y E) {kn : List Known} (hkn : KnownOk Y E kn) (lf : Nat) : ∀ n, RecOk Y E (evKn E kn lf n)
  | 0 => fun _ _ _ _ _ _ _ _ _ _ hk => by cases hk
  | n + 1 => fun tgt args h k ρ w cargs hr hg ha hk => by
    have ih := evKn_ok hE hkn lf n
    have hdraw : ∀ (L : Lv) nt, L.ng = E.ng → ∀ id ops, CodeOk Y E L nt (.region id ops true) (cDraw E L nt ops.toList) := fun _ _ hng id ops => draw_ok hE hng id ops
    cases tgt with
    | yield l => exact yield_ok hE hdraw ih hr hg ha hk
    | dfn f => exact funD_ok hE hdraw ih hr hg ha hk
    | fn f =>
      have hk' : (match findK f args kn with | some v => k v h | none => (cFun E lf f).run (evKn E kn lf n) args h k) = true := hk
      cases hf : findK f args kn with
      | none => rw [hf] at hk'; exact fun_ok hE hdraw ih hr hg ha hk'
      | some v =>
        rw [hf] at hk'
        dsimp only at hk'
        obtain ⟨q, hq, rfl, hs, rfl⟩ := findK_mem hf
        obtain ⟨hbody, hgive⟩ := hkn q hq
        obtain ⟨he, hfree⟩ := sameVs_eq (Y := Y) hs
        have ha0 : concs Y (fun _ => none) q.args = some cargs := by rw [← he, hfree _ ρ]; exact ha
        have hcall := hgive w cargs ha0
        refine ⟨?_, fun m => callsIn_wide.2 (Calls.mono hcall fun e w' hew => ?_)⟩
        · unfold hasBody at hbody
          cases hft : E.ft.get q.f with
          | none => rw [hft] at hbody; cases hbody
          | some fn =>
            rw [hft] at hbody
            dsimp only at hbody
            cases hb : fn.body with
            | none => rw [hb] at hbody; cases hbody
            | some c =>
              have hfP := hE.ft q.f fn hft
              have hnm := hE.named q.f fn hft (by rw [hb]; rfl)
              have hnm' : ¬ fn.name = "runtime.NumGoroutine" := by simpa using hnm
              simp [callFunc, hfP, hnm', hb]
        · obtain ⟨cv, rfl, hcv, hbel⟩ := hew
          exact ⟨ρ, h, q.v, Goes.of_below hr hbel, conc_mono (fun _ _ h => by cases h) hcv, hk'⟩

/-- a call that is evaluated with no heap at hand -/
theorem gives_of_run (hE : EnvOk Y E) {kn : List Known} (hkn : KnownOk Y E kn) (hng : E.ng = 0) {lf n : Nat} {f : FuncId} {args : List AV} {r : AV} (hk : evKn E kn lf n (.fn f) args ⟨.nil, 0, [], []⟩ (fun v _ => sameV v r) = true) : Gives Y E f args r := by
  intro w cargs hargs
  have hr : Rel Y E (fun _ => none) ⟨.nil, 0, [], []⟩ w := by
    have hnone : ∀ b, H.get ⟨.nil, 0, [], []⟩ b = none := fun b => by rw [H.get_eq]; rfl
    refine ⟨fun b o h _ => ?_, fun b c o p L M h => ?_, fun _ _ => rfl, fun b L h => by cases h⟩
    · rw [hnone] at h; cases h
    · rw [hnone] at h; cases h
  have hg : Glob E (fun _ => none) := fun g h => by rw [hng] at h; exact absurd h (Nat.not_lt_zero _)
  obtain ⟨_, h2⟩ := evKn_ok hE hkn lf n (.fn f) args ⟨.nil, 0, [], []⟩ _ (fun _ => none) w cargs hr hg hargs hk
  refine callsIn_wide.1 (CallsIn.mono (h2 0) fun e w' h => ?_)
  cases e with
  | panicked c => exact h.elim
  | outgrown => exact h.elim
  | returned v =>
    obtain ⟨ρ', h', av, hgo, hv, ht⟩ := h
    dsimp only at ht
    obtain ⟨rfl, hfree⟩ := sameV_eq (Y := Y) ht
    refine ⟨v, rfl, by rw [hfree _ ρ']; exact hv, hgo.frm.os, hgo.frm.tape, hgo.frm.output, hgo.frm.size, fun k hk' => hgo.frm.block k hk' fun b o L hb => ?_⟩
    rw [H.get_eq] at hb
    cases hb

end
end
end Go.AE
