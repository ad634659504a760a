/-
  Functions whose body is walked piece by piece: the entry, a sequence, the end.
-/
import Derived.Test.YtfgjojdcbbcbgaaGreatDoorAeHead
import Derived.Test.YtfgjojdcbbcbgaaGreatDoorAeCls
namespace Go.AE
noncomputable section

section
variable {Y : Sy} {E : Env} {ρ : Rho} {h : H} {w : World}

theorem LeavesB.mono {w0 : World} {L : Lv} {nt : Nat} {k k' : KT} {a : Act} (h : LeavesB Y E w0 L nt k a w) (hk : ∀ tm df h, k tm df h = true → k' tm df h = true) : LeavesB Y E w0 L nt k' a w := by
  obtain ⟨ρ, h, tm, df, h1, h2, h3, h4⟩ := h
  exact ⟨ρ, h, tm, df, h1, h2, h3, hk _ _ _ h4⟩

theorem LeavesB.none {w0 : World} {L : Lv} {nt : Nat} {a : Act} (h : LeavesB Y E w0 L nt (fun _ _ _ => false) a w) : False := by
  obtain ⟨ρ, h, tm, df, h1, h2, h3, h4⟩ := h
  cases h4

/-- a head fits itself: what holds of its frame and heap -/
theorem At.leaves {w0 : World} {L : Lv} {nt : Nat} {s : Hd} {a : Act} (hat : At Y E w0 L nt s a w) {k : KT} (hk : k s.tmT [] s.heap = true) : LeavesB Y E w0 L nt k a w := by
  obtain ⟨ρ, h1, h2, h3⟩ := hat
  exact ⟨ρ, _, _, _, h1, h2, h3, hk⟩

/-- where a body begins -/
theorem entryB {L : Lv} {nt : Nat} {args : List AV} {cargs : List Value} (hle : args.length ≤ nt) (ha : concs Y (fun _ => none) args = some cargs) {k : KT} (hk : k (ofListV args) [] ⟨.nil, 0, [], []⟩ = true) :
    LeavesB Y E w L nt k { tmps := cargs.toArray ++ Array.replicate (nt - cargs.toArray.size) undef, defers := [] } w := by
  have hnone : ∀ b, H.get ⟨.nil, 0, [], []⟩ b = none := fun b => by rw [H.get_eq]; rfl
  have hlen := concs_length ha
  refine ⟨fun _ => none, ⟨.nil, 0, [], []⟩, ofListV args, [], ⟨fun b o h _ => ?_, fun b c o p L M h => ?_, fun _ _ => rfl, fun b L h => by cases h⟩, ⟨enter_tmps ha _, by simp; omega, trivial⟩, ⟨rfl, rfl, rfl, Nat.le_refl _, fun _ _ => rfl, fun b o L h => ?_⟩, hk⟩
  · rw [hnone] at h; cases h
  · rw [hnone] at h; cases h
  · rw [hnone] at h; cases h

theorem seqB {P : Program} {w0 : World} {L : Lv} {nt n : Nat} {x y : Code} {kn kr : KT} {ke : Nat → KT} {a : Act} {Q : Exit → Act → World → Prop}
    (hx : x.wpIn (fence none) n P (PostB Y E w0 L nt kn ke kr) a w) (hn : ∀ a' w', LeavesB Y E w0 L nt kn a' w' → y.wpIn (fence none) n P Q a' w')
    (he : ∀ id a' w', LeavesB Y E w0 L nt (ke id) a' w' → Q (.exit id) a' w') (hr : ∀ a' w', LeavesB Y E w0 L nt kr a' w' → Q .ret a' w') : (Code.seq x y).wpIn (fence none) n P Q a w := by
  refine wpIn_seq (wpIn_mono hx fun e a' w' hq => ?_)
  cases e with
  | normal => exact hn _ _ hq
  | exit id => exact he _ _ _ hq
  | ret => exact hr _ _ hq
  | goto l => exact hq.elim
  | panic ch => exact hq.elim
  | outgrown => exact hq.elim

/-- a call that returns true, out of its body -/
theorem calls_true {P : Program} {f : FuncId} {fn : Func} {c : Code} {args : List AV} {cargs : List Value} (hP : E.P = P) (hE : EnvOk Y E) (hf : E.ft.get f = some fn) (hb : fn.body = some c) (hle : Nat.ble args.length fn.ntmps = true)
    (ha : concs Y (fun _ => none) args = some cargs)
    (hw : ∀ a, (∀ k : KT, k (ofListV args) [] ⟨.nil, 0, [], []⟩ = true → LeavesB Y E w (lvOf E fn) fn.ntmps k a w) →
      c.wpIn (fence none) 0 P (fun e a' w' => (e = .normal ∨ e = .ret) ∧ ∃ Y', EnvOk Y' E ∧ LeavesB Y' E w (lvOf E fn) fn.ntmps (resK E fn fun v => sameV v (.bool true)) a' w') a w) :
    Calls P f cargs.toArray w fun e w' => e = .returned (.bool true) ∧ RowKit.Below w.heap.size w w' := by
  subst hP
  refine callsIn_wide.1 (calls_of_body (n := 0) hE hf hb (wpIn_mono (hw _ fun k hk => entryB (Nat.le_of_ble_eq_true hle) ha hk) fun e a' w' hq => ?_))
  obtain ⟨he, Y', hE', hl⟩ := hq
  obtain ⟨h1, v, av, ρ, h2, h3, h4, h5⟩ := resK_ok hE' hl
  refine ⟨he, h1, v, h2, ?_⟩
  obtain ⟨rfl, _⟩ := sameV_eq (Y := Y') h4
  cases h3
  exact ⟨rfl, h5⟩

def noK : KT := fun _ _ _ => false

/-- one piece behind the other -/
def seqs : List Code → Code → Code
  | [], r => r
  | c :: l, r => .seq c (seqs l r)

def runL (cl : Code → KC) (rc : Rec) : List Code → KT → KT
  | [], k => k
  | c :: l, k => fun tm df h => (cl c).run rc none tm df h (runL cl rc l k) (fun _ => noK) noK

theorem prefB (hng : E.ng = 0) {w0 : World} {L : Lv} {nt n : Nat} {cl : Code → KC} (hcl : ∀ c, CodeOk Y E L nt c (cl c)) {rc : Rec} (hrc : RecOk Y E rc) {k : KT} {r : Code} {Q : Exit → Act → World → Prop}
    (hr : ∀ a w, LeavesB Y E w0 L nt k a w → r.wpIn (fence none) n E.P Q a w) : ∀ (l : List Code) (a : Act) (w : World), LeavesB Y E w0 L nt (runL cl rc l k) a w → (seqs l r).wpIn (fence none) n E.P Q a w
  | [], a, w, h => hr a w h
  | c :: l, _, _, h => seqB (stepB hng (hcl c) hrc h) (fun a' w' h' => prefB hng hcl hrc hr l a' w' h') (fun _ _ _ h => h.none.elim) (fun _ _ h => h.none.elim)

/-- at the end of a piece -/
theorem lastB (hng : E.ng = 0) {w0 : World} {L : Lv} {nt n : Nat} {cl : Code → KC} (hcl : ∀ c, CodeOk Y E L nt c (cl c)) {rc : Rec} (hrc : RecOk Y E rc) {k : KT} {c : Code} {Q : Exit → Act → World → Prop}
    (hr : ∀ a w, LeavesB Y E w0 L nt k a w → Q .normal a w) {a : Act} (h : LeavesB Y E w0 L nt (runL cl rc [c] k) a w) : c.wpIn (fence none) n E.P Q a w := by
  refine wpIn_mono (stepB hng (hcl c) hrc h) fun e a' w' hq => ?_
  cases e with
  | normal => exact hr _ _ hq
  | exit id => exact (LeavesB.none hq).elim
  | ret => exact (LeavesB.none hq).elim
  | goto l => exact hq.elim
  | panic ch => exact hq.elim
  | outgrown => exact hq.elim

/-- the code of a function is sound -/
theorem codes_ok (hE : EnvOk Y E) {lf : Nat} {f : FuncId} {fn : Func} (hf : E.ft.get f = some fn) (c : Code) : CodeOk Y E (lvOf E fn) fn.ntmps c (cCode E lf (lvOf E fn) fn.ntmps f c) :=
  cCode_ok (lf := lf) (L := lvOf E fn) (nt := fn.ntmps) (fn := f) hE rfl (fun fd hfd => by rw [hf] at hfd; cases hfd; rfl) (fun id ops => draw_ok hE rfl id ops) c

/-! ### Other values for the symbols -/
def okX : SX → Bool
  | .var i => Nat.blt i 1000
  | .conv _ a => okX a
  | .bin _ _ a b => okX a && okX b
  | _ => true

def okL (f : AV → Bool) : List AV → Bool
  | [] => true
  | v :: r => f v && okL f r

/-- it names the numbers below 1000 alone -/
def okStep (ih : AV → Bool) (x : AV) : Bool :=
  match x with
  | .opq _ => false
  | .when _ _ _ => false
  | .sint _ e _ _ => okX e
  | .func _ a c => okL ih a && okL ih c
  | .iface _ v => ih v
  | .agg l => okL ih l
  | .tuple l => okL ih l
  | _ => true

def okAV (n : Nat) : AV → Bool := Nat.rec (motive := fun _ => AV → Bool) (fun _ => false) (fun _ ih => okStep ih) n

structure Agree (Y Y' : Sy) : Prop where
  strs : Y'.strs = Y.strs
  sls : Y'.sls = Y.sls
  ints : ∀ i, i < 1000 → Y'.ints i = Y.ints i

theorem okX_val {Y' : Sy} (ag : Agree Y Y') : ∀ {e : SX}, okX e = true → e.val Y' = e.val Y
  | .var i, h => ag.ints i ((blt_iff _ _).1 h)
  | .conv k a, h => by simp only [SX.val, okX_val ag (e := a) h]
  | .bin op k a b, h => by
    simp only [okX, Bool.and_eq_true] at h
    simp only [SX.val, okX_val ag h.1, okX_val ag h.2]
  | .len i, _ => by simp only [SX.val, ag.strs]
  | .con n, _ => rfl
  | .byte i j, _ => by simp only [SX.val, ag.strs]
  | .slen i, _ => by simp only [SX.val, ag.sls]

theorem okL_conc {Y' : Sy} {f : AV → Bool} (ih : ∀ v c, f v = true → conc Y ρ v = some c → conc Y' ρ v = some c) : ∀ {l : List AV} {cs : List Value}, okL f l = true → concs Y ρ l = some cs → concs Y' ρ l = some cs
  | [], _, _, h => h
  | v :: r, _, h, hc => by
    simp only [okL, Bool.and_eq_true] at h
    obtain ⟨a, b, h1, h2, rfl⟩ := concs_cons.1 hc
    exact concs_cons.2 ⟨a, b, ih _ _ h.1 h1, okL_conc ih h.2 h2, rfl⟩

theorem okAV_conc {Y' : Sy} (ag : Agree Y Y') : ∀ (n : Nat) (v : AV) (c : Value), okAV n v = true → conc Y ρ v = some c → conc Y' ρ v = some c
  | 0, _, _, h, _ => by cases h
  | n + 1, v, c, h, hc => by
    have ih := okAV_conc (Y' := Y') ag n
    have h' : okStep (okAV n) v = true := h
    cases v with
    | opq i => cases h'
    | «when» e ks u => cases h'
    | sint k e lo hi =>
      have := okX_val ag (e := e) h'
      simp only [conc] at hc ⊢
      rw [this]
      exact hc
    | func fn a cl =>
      simp only [okStep, Bool.and_eq_true] at h'
      simp only [conc] at hc ⊢
      split at hc
      · rename_i g ca cc e1 e2 e3
        rw [okL_conc ih h'.1 e2, okL_conc ih h'.2 e3, e1]
        exact hc
      · cases hc
    | iface t u =>
      obtain ⟨cv, h1, rfl⟩ := conc_iface hc
      have := ih u cv h' h1
      simp only [conc, this]
    | agg l =>
      simp only [conc] at hc ⊢
      split at hc
      · rename_i h0
        rw [if_pos h0]
        split at hc
        · rename_i cs h1
          rw [okL_conc ih h' h1]
          exact hc
        · cases hc
      · cases hc
    | tuple l =>
      simp only [conc] at hc ⊢
      split at hc
      · rename_i cs h1
        rw [okL_conc ih h' h1]
        exact hc
      · cases hc
    | sstr i lo hi => simp only [conc, ag.strs] at hc ⊢; exact hc
    | oslice i => simp only [conc, ag.sls] at hc ⊢; exact hc
    | uslice i b o lo hi => simp only [conc, ag.sls] at hc ⊢; exact hc
    | _ => simpa only [conc] using hc

def okHO (x : HO) : Bool :=
  match x with
  | .row vs _ => okL (okAV 8) vs
  | .map es _ => es.all fun e => okAV 8 e.key && okAV 8 e.val
  | .held vs => okL (okAV 8) vs

theorem okL_get {f : AV → Bool} : ∀ {l : List AV}, okL f l = true → ∀ (i : Nat) v, l[i]? = some v → f v = true
  | [], _, i, v, h => by simp at h
  | x :: r, h, i, v, hv => by
    simp only [okL, Bool.and_eq_true] at h
    cases i with
    | zero => simp at hv; subst hv; exact h.1
    | succ i => exact okL_get h.2 i v (by simpa using hv)

theorem okEnts_conc {Y' : Sy} (ag : Agree Y Y') : ∀ {es : List AEnt} {l : List MapEntry}, (es.all fun e => okAV 8 e.key && okAV 8 e.val) = true → EntRel Y ρ es l → EntRel Y' ρ es l
  | [], [], _, hr => hr
  | a :: x, e :: s, h, hr => by
    simp only [List.all_cons, Bool.and_eq_true] at h
    obtain ⟨⟨h1, h2⟩, h3⟩ := h
    obtain ⟨k1, k2, k3, k4⟩ := hr
    exact ⟨okAV_conc ag _ _ _ h1 k1, okAV_conc ag _ _ _ h2 k2, k3, okEnts_conc ag (by simpa using h3) k4⟩
  | [], _ :: _, _, hr => hr.elim
  | _ :: _, [], _, hr => hr.elim

theorem okHO_rel {Y' : Sy} (ag : Agree Y Y') {x : HO} {L : Loc} {ob : Obj} (h : okHO x = true) (hr : ORel Y E ρ L x.obj ob) : ORel Y' E ρ L x.obj ob := by
  cases x with
  | row vs gs =>
    have e : (HO.row vs gs).obj = .cells (ofListV vs) vs.length gs := by
      show rowObj vs gs = _
      unfold rowObj
      rw [forceN_eq]
    rw [e] at hr ⊢
    obtain ⟨arr, elem, rfl, k1, k2, k3⟩ := hr
    refine ⟨arr, elem, rfl, k1, k2, fun i v hv => ?_⟩
    obtain ⟨q1, q2, cv, q3, q4⟩ := k3 i v hv
    rw [get_ofListV] at hv
    exact ⟨q1, q2, cv, okAV_conc ag _ _ _ (okL_get h i v hv) q3, q4⟩
  | map es cl =>
    obtain ⟨l, rfl, k1⟩ := hr
    exact ⟨l, rfl, okEnts_conc ag h k1⟩
  | held vs =>
    obtain ⟨arr, elem, fz, rfl, k1, k2, k3⟩ := hr
    refine ⟨arr, elem, fz, rfl, k1, k2, fun i v hv => ?_⟩
    obtain ⟨q1, q2, cv, q3, q4⟩ := k3 i v hv
    rw [get_ofListV] at hv
    exact ⟨q1, q2, cv, okAV_conc ag _ _ _ (okL_get h i v hv) q3, q4⟩

/-- of the frame: known as before, or known by itself -/
def turnOk (live live' : Nat) (ex : List Nat) (tm tm' : T AV) : Nat → Bool
  | 0 => true
  | t + 1 => (match Nat.testBit live t with
    | true => (match memN ex t with
      | true => turnOk live live' ex tm tm' t
      | false => (match Nat.testBit live' t, eqAV 8 (tget tm' t) (tget tm t), okAV 8 (tget tm t) with | true, true, true => turnOk live live' ex tm tm' t | _, _, _ => false))
    | false => turnOk live live' ex tm tm' t)

theorem turnOk_ok {live live' : Nat} {ex : List Nat} {tm tm' : T AV} : ∀ {K : Nat}, turnOk live live' ex tm tm' K = true → ∀ t, t < K → Nat.testBit live t = true → t ∉ ex → Nat.testBit live' t = true ∧ tget tm' t = tget tm t ∧ okAV 8 (tget tm t) = true
  | 0, _, t, h, _, _ => absurd h (Nat.not_lt_zero _)
  | K + 1, h, t, ht, hb, hx => by
    simp only [turnOk] at h
    by_cases e : t = K
    · subst e
      rw [hb] at h
      dsimp only at h
      split at h
      · rename_i hm
        exact absurd ((memN_iff _ _).1 hm) hx
      · split at h
        · rename_i h1 h2 h3
          exact ⟨h1, eqAV_eq _ _ _ h2, h3⟩
        · cases h
    · have hlt : t < K := by omega
      split at h
      · split at h
        · exact turnOk_ok h t hlt hb hx
        · split at h
          · exact turnOk_ok h t hlt hb hx
          · cases h
      · exact turnOk_ok h t hlt hb hx

/-- other values for the symbols; of some temporaries other things are said, or nothing was known -/
theorem At.turn {Y' : Sy} {w0 : World} {ng live live' nt K : Nat} {s s' : Hd} {a : Act} (hat : At Y E w0 ⟨live', ng⟩ nt s a w) (ag : Agree Y Y') (he : s'.ents = s.ents) (hn : s'.next = s.next) (hp : s'.prot = s.prot)
    (hok : (s.ents.all fun p => okHO p.2) = true) {ex : List Nat} (hK : Nat.blt live (Nat.pow 2 K) = true) (ht : turnOk live live' ex s.tmT s'.tmT K = true)
    (hex : ∀ t ∈ ex, conc Y' (fun _ => none) (tget s'.tmT t) = some (a.tmps.getD t undef)) : At Y' E w0 ⟨live, ng⟩ nt s' a w := by
  obtain ⟨ρ, hr, hf, hb⟩ := hat
  have hh : s'.heap = s.heap := by unfold Hd.heap; rw [he, hn, hp]
  refine ⟨ρ, ?_, ⟨fun t hlt => ?_, hf.size, ?_⟩, hh ▸ hb⟩
  · rw [hh]
    refine ⟨fun b o hbo ha => ?_, hr.inj, hr.fresh, hr.bound⟩
    obtain ⟨L, ob, h1, h2, h3⟩ := hr.obj b o hbo ha
    refine ⟨L, ob, h1, h2, ?_⟩
    unfold Hd.heap at hbo
    rw [H.get_bare] at hbo
    rcases get_putAll (b := b) (objsOf s.ents) with ⟨_, o', ho', h4⟩ | ⟨_, h4⟩
    · rw [h4] at hbo
      cases hbo
      obtain ⟨p, hpm, e⟩ := List.mem_map.1 ho'
      cases e
      rw [List.all_eq_true] at hok
      exact okHO_rel ag (hok p hpm) h3
    · rw [h4] at hbo
      cases hbo
  · have hlt' : Nat.testBit live t = true := hlt
    by_cases hx : t ∈ ex
    · exact conc_mono (fun _ _ h => by cases h) (hex t hx)
    · have hK' : t < K := by
        rcases Nat.lt_or_ge t K with h | h
        · exact h
        · have hl := (blt_iff _ _).1 hK
          have : Nat.testBit live t = false := Nat.testBit_lt_two_pow (Nat.lt_of_lt_of_le hl (Nat.pow_le_pow_right (by omega) h))
          rw [this] at hlt'
          cases hlt'
      obtain ⟨h1, h2, h3⟩ := turnOk_ok ht t hK' hlt' hx
      rw [h2]
      exact okAV_conc ag _ _ _ h3 (hf.tmps t h1)
  · have := hf.defs
    cases hde : a.defers with
    | nil => trivial
    | cons x y => rw [hde] at this; exact this.elim

theorem Agree.refl (Y : Sy) : Agree Y Y := ⟨rfl, rfl, fun _ _ => rfl⟩
theorem Agree.trans {Y Y' Y'' : Sy} (h : Agree Y Y') (k : Agree Y' Y'') : Agree Y Y'' := ⟨k.strs.trans h.strs, k.sls.trans h.sls, fun i hi => (k.ints i hi).trans (h.ints i hi)⟩

/-- these temporaries are said to be opaque -/
def opqB (tm : T AV) : List Nat → Bool
  | [] => true
  | t :: r => (match tget tm t with | .opq (.var i) => (match Nat.beq i t with | true => opqB tm r | false => false) | _ => false)

theorem opqB_ok {tm : T AV} : ∀ {l : List Nat}, opqB tm l = true → ∀ t ∈ l, tget tm t = .opq (.var t)
  | [], _, t, h => by cases h
  | u :: r, h, t, ht => by
    simp only [opqB] at h
    split at h
    · rename_i i hi
      split at h
      · rename_i hb
        rcases List.mem_cons.1 ht with rfl | ht
        · rw [hi, Nat.eq_of_beq_eq_true hb]
        · exact opqB_ok h t ht
      · cases h
    · cases h

/-- less is asked of the frame -/
theorem At.less {w0 : World} {ng live live' nt : Nat} {s : Hd} {a : Act} (hat : At Y E w0 ⟨live, ng⟩ nt s a w) (h : ∀ t, Nat.testBit live' t = true → Nat.testBit live t = true) : At Y E w0 ⟨live', ng⟩ nt s a w := by
  obtain ⟨ρ, hr, hf, hb⟩ := hat
  exact ⟨ρ, hr, ⟨fun t ht => hf.tmps t (h t ht), hf.size, hf.defs⟩, hb⟩

/-- a head that is fitted in some of the frame -/
theorem LeavesB.at_less {w0 : World} {L : Lv} {live' nt K : Nat} {s : Hd} {a : Act} (h : LeavesB Y E w0 L nt (fit live' K s) a w) (hl : Nat.beq (Nat.land live' L.live) live' = true) : At Y E w0 ⟨live', L.ng⟩ nt s a w := by
  obtain ⟨ρ, h, tm, df, h1, h2, h3, h4⟩ := h
  have hl' := Nat.eq_of_beq_eq_true hl
  have hsub : ∀ t, Nat.testBit live' t = true → Nat.testBit L.live t = true := by
    intro t ht
    rw [← hl'] at ht
    have e : Nat.testBit (live' &&& L.live) t = true := ht
    rw [Nat.testBit_and, Bool.and_eq_true] at e
    exact e.2
  exact LeavesB.at_ (L := ⟨live', L.ng⟩) (K := K) ⟨ρ, h, tm, df, h1, ⟨fun t ht => h2.tmps t (hsub t ht), h2.size, h2.defs⟩, h3, h4⟩

/-- what lies in a temporary -/
theorem At.tmp {w0 : World} {L : Lv} {nt : Nat} {s : Hd} {a : Act} (hat : At Y E w0 L nt s a w) {t : Nat} (hb : Nat.testBit L.live t = true) {v : AV} (hv : tget s.tmT t = v) {c : Value} (hc : ∀ ρ, conc Y ρ v = some c ∨ conc Y ρ v = none) :
    a.tmps.getD t undef = c := by
  obtain ⟨ρ, hr, hf, _⟩ := hat
  have h := hf.tmps t hb
  rw [hv] at h
  rcases hc ρ with h1 | h1
  · rw [h1] at h; exact (Option.some.inj h).symm
  · rw [h1] at h; cases h

end
end

/-! ### What is known of calls, function by function: a call of another function passes it by at once -/
noncomputable def findG (f : FuncId) (args : List AV) : List (FuncId × List Known) → Option AV
  | [] => none
  | g :: r => (match Nat.beq g.1 f with | true => findK f args g.2 | false => findG f args r)

def flatG : List (FuncId × List Known) → List Known
  | [] => []
  | g :: r => g.2 ++ flatG r

theorem findG_mem {f : FuncId} {args : List AV} {v : AV} : ∀ {gs : List (FuncId × List Known)}, findG f args gs = some v → ∃ q ∈ flatG gs, q.f = f ∧ sameVs args q.args = true ∧ q.v = v
  | [], h => by cases h
  | g :: r, h => by
    simp only [findG] at h
    split at h
    · obtain ⟨q, h1, h2⟩ := findK_mem h
      exact ⟨q, List.mem_append_left _ h1, h2⟩
    · obtain ⟨q, h1, h2⟩ := findG_mem h
      exact ⟨q, List.mem_append_right _ h1, h2⟩

noncomputable def evSg (E : Env) (gs : List (FuncId × List Known)) (ss : List Sum) (lf n : Nat) : Rec :=
  Nat.rec (motive := fun _ => Rec) (fun _ _ _ _ => false)
    (fun _ ih tgt => match tgt with
      | .fn f => fun args h k => (match findG f args gs with
        | some v => k v h
        | none => (match findS f args h ss with
          | some x => k x.1 x.2
          | none => (cFun E lf f).run ih args h k))
      | .yield l => fun args h k => yieldK E lf ih l args h k
      | .dfn f => fun args h k => (cFunD E lf f).run ih args h k) n

section
variable {Y : Sy} {E : Env} {ρ : Rho} {h : H} {w : World}

theorem evSg_ok (hE : EnvOk Y E) {gs : List (FuncId × List Known)} (hkn : KnownOk Y E (flatG gs)) {ss : List Sum} (hss : SumsOk Y E ss) (lf : Nat) : ∀ n, RecOk Y E (evSg E gs ss lf n)
  | 0 => fun _ _ _ _ _ _ _ _ _ _ hk => by cases hk
  | n + 1 => fun tgt args h k ρ w cargs hr hg ha hk => by
    have ih := evSg_ok hE hkn hss lf n
    have hdraw : ∀ (L : Lv) nt, L.ng = E.ng → ∀ id ops, CodeOk Y E L nt (.region id ops true) (cDraw E L nt ops.toList) := fun _ _ hng id ops => draw_ok hE hng id ops
    cases tgt with
    | yield l => exact yield_ok hE hdraw ih hr hg ha hk
    | dfn f => exact funD_ok hE hdraw ih hr hg ha hk
    | fn f =>
      have hk' : (match findG f args gs with
        | some v => k v h
        | none => (match findS f args h ss with
          | some x => k x.1 x.2
          | none => (cFun E lf f).run (evSg E gs ss lf n) args h k)) = true := hk
      cases hf : findG f args gs with
      | none =>
        rw [hf] at hk'
        dsimp only at hk'
        cases hs : findS f args h ss with
        | none => rw [hs] at hk'; exact fun_ok hE hdraw ih hr hg ha hk'
        | some x =>
          rw [hs] at hk'
          dsimp only at hk'
          obtain ⟨q, hq, rfl, hap⟩ := findS_mem hs
          obtain ⟨v, h'⟩ := x
          obtain ⟨h1, rfl, h3, h4, h5, h6, rfl, rfl⟩ := apply_eq hap
          obtain ⟨hbody, hsum⟩ := hss q hq
          refine ⟨callFunc_body hE hbody cargs, fun m => callsIn_wide.2 ?_⟩
          have hrb : Rel Y E ρ q.before w := hr.sub (fun b o hb => by
            unfold Sum.before at hb
            rw [H.get_bare] at hb
            rcases get_putAll (b := b) q.old with ⟨_, o', ho', h2⟩ | ⟨_, h2⟩
            · rw [h2] at hb
              cases hb
              exact subH_mem h3 b _ ho'
            · rw [h2] at hb
              cases hb) h1
          refine Calls.mono (hsum ρ w cargs hrb hg ha) fun e w' hew => ?_
          obtain ⟨cv, ρ', rfl, hgo, hcv⟩ := hew
          exact ⟨ρ', _, q.v, Goes.frame hr h1 h3 h4 h5 h6 hgo, hcv, hk'⟩
      | some v =>
        rw [hf] at hk'
        dsimp only at hk'
        obtain ⟨q, hq, rfl, hs, rfl⟩ := findG_mem hf
        obtain ⟨hbody, hgive⟩ := hkn q hq
        obtain ⟨he, hfree⟩ := sameVs_eq (Y := Y) hs
        have ha0 : concs Y (fun _ => none) q.args = some cargs := by rw [← he, hfree _ ρ]; exact ha
        refine ⟨callFunc_body hE hbody cargs, fun m => callsIn_wide.2 (Calls.mono (hgive w cargs ha0) fun e w' hew => ?_)⟩
        obtain ⟨cv, rfl, hcv, hbel⟩ := hew
        exact ⟨ρ, h, q.v, Goes.of_below hr hbel, conc_mono (fun _ _ h => by cases h) hcv, hk'⟩

end
end Go.AE
