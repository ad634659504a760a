/-
  Functions of the library whose outcome is reckoned (the place of a part in a string, how often a byte is in it): an evaluator that knows them, for every string that is spelled out.
-/
import Derived.Test.YtfgjojdcbbcbgaaGreatDoorAeLoop
import Derived.Test.YtfgjojdcbbcbgaaGreatDoorAeGlob
import Derived.Lib.Bytealg
import Derived.Lib.Index
namespace Go.AE
noncomputable section

/-- where a byte is, from place i on -/
def idxByte (c : Nat) : List Nat → Nat → Int
  | [], _ => .negSucc 0
  | b :: r, i => (match Nat.beq b c with | true => .ofNat i | false => idxByte c r (Nat.succ i))

def cntByte (c : Nat) : List Nat → Nat → Nat
  | [], n => n
  | b :: r, n => (match Nat.beq b c with | true => cntByte c r (Nat.succ n) | false => cntByte c r n)

def preS : List Nat → List Nat → Bool
  | [], _ => true
  | _ :: _, [] => false
  | a :: r, b :: l => (match Nat.beq a b with | true => preS r l | false => false)

/-- where a part is, from place i on -/
def idxPart (sub : List Nat) : List Nat → Nat → Int
  | [], i => (match sub with | [] => .ofNat i | _ => .negSucc 0)
  | b :: r, i => (match preS sub (b :: r) with | true => .ofNat i | false => idxPart sub r (Nat.succ i))

theorem ofNat_beq {a b : Nat} (ha : a < 256) (hb : b < 256) : (UInt8.ofNat a == UInt8.ofNat b) = Nat.beq a b := by
  cases h : Nat.beq a b with
  | true =>
    have := Nat.eq_of_beq_eq_true h
    subst this
    exact beq_self_eq_true _
  | false =>
    refine beq_eq_false_iff_ne.2 fun e => ?_
    have := ofNat_inj ha hb e
    subst this
    rw [Nat.beq_refl] at h
    cases h

theorem okB_cons {b : Nat} {r : List Nat} (h : okBytes (b :: r) = true) : b < 256 ∧ okBytes r = true := by
  unfold okBytes at *
  simp only [List.all_cons, Bool.and_eq_true, decide_eq_true_eq] at h
  exact h

theorem idxByte_eq {c : Nat} (hc : c < 256) : ∀ {l : List Nat}, okBytes l = true → ∀ i, idxByte c l i = (if Lib.indexByte (l.map UInt8.ofNat) (UInt8.ofNat c) = -1 then -1 else Lib.indexByte (l.map UInt8.ofNat) (UInt8.ofNat c) + i)
  | [], _, i => by simp [idxByte, Lib.indexByte]
  | b :: r, h, i => by
    obtain ⟨hb, hr⟩ := okB_cons h
    have ih := idxByte_eq hc hr (Nat.succ i)
    have hge := Lib.indexByte_ge (r.map UInt8.ofNat) (UInt8.ofNat c)
    simp only [idxByte, List.map_cons, Lib.indexByte, ofNat_beq hb hc]
    cases Nat.beq b c with
    | true => simp
    | false =>
      simp only [ih, beq_iff_eq, Bool.false_eq_true, if_false]
      by_cases e : Lib.indexByte (r.map UInt8.ofNat) (UInt8.ofNat c) = -1
      · simp [e]
      · have : ¬ Lib.indexByte (r.map UInt8.ofNat) (UInt8.ofNat c) + 1 = -1 := by omega
        simp only [e, this, if_false]
        omega

theorem cntByte_eq {c : Nat} (hc : c < 256) : ∀ {l : List Nat}, okBytes l = true → ∀ n, cntByte c l n = Lib.countByte (l.map UInt8.ofNat) (UInt8.ofNat c) + n
  | [], _, n => by simp [cntByte, Lib.countByte]
  | b :: r, h, n => by
    obtain ⟨hb, hr⟩ := okB_cons h
    have e : Lib.countByte ((b :: r).map UInt8.ofNat) (UInt8.ofNat c) = Lib.countByte (r.map UInt8.ofNat) (UInt8.ofNat c) + if UInt8.ofNat b == UInt8.ofNat c then 1 else 0 := by
      unfold Lib.countByte
      rw [List.map_cons, List.count_cons]
    rw [e, ofNat_beq hb hc]
    unfold cntByte
    cases Nat.beq b c with
    | true =>
      have ih := cntByte_eq hc hr (Nat.succ n)
      simp only [ih, if_true]
      omega
    | false =>
      have ih := cntByte_eq hc hr n
      simp only [ih, Bool.false_eq_true, if_false]
      omega

theorem preS_eq : ∀ {a l : List Nat}, okBytes a = true → okBytes l = true → preS a l = (a.map UInt8.ofNat).isPrefixOf (l.map UInt8.ofNat)
  | [], _, _, _ => rfl
  | _ :: _, [], _, _ => rfl
  | x :: a, y :: l, ha, hl => by
    obtain ⟨hx, ha'⟩ := okB_cons ha
    obtain ⟨hy, hl'⟩ := okB_cons hl
    simp only [preS, List.map_cons, List.isPrefixOf, ofNat_beq hx hy, preS_eq ha' hl']
    cases Nat.beq x y <;> rfl

theorem idxPart_eq {sub : List Nat} (hs : okBytes sub = true) : ∀ {l : List Nat}, okBytes l = true → ∀ i, idxPart sub l i = (if Lib.index (l.map UInt8.ofNat) (sub.map UInt8.ofNat) = -1 then -1 else Lib.index (l.map UInt8.ofNat) (sub.map UInt8.ofNat) + i)
  | [], _, i => by
    cases sub with
    | nil => simp [idxPart, Lib.index]
    | cons a s => simp [idxPart, Lib.index]
  | b :: r, h, i => by
    obtain ⟨_, hr⟩ := okB_cons h
    have ih := idxPart_eq hs hr (Nat.succ i)
    have hge := Lib.index_ge (r.map UInt8.ofNat) (sub.map UInt8.ofNat)
    have hp := preS_eq hs h
    simp only [idxPart, List.map_cons, Lib.index]
    rw [List.map_cons] at hp
    rw [← hp]
    cases preS sub (b :: r) with
    | true => simp
    | false =>
      simp only [ih, beq_iff_eq, Bool.false_eq_true, if_false]
      by_cases e : Lib.index (r.map UInt8.ofNat) (sub.map UInt8.ofNat) = -1
      · simp [e]
      · have : ¬ Lib.index (r.map UInt8.ofNat) (sub.map UInt8.ofNat) + 1 = -1 := by omega
        simp only [e, this, if_false]
        omega

/-! ### What is reckoned -/
/-- the place of one byte; how often one byte is there; the place of a part (the library reads a number from variable g) -/
inductive Pm where
  | idx1
  | cnt1
  | idx (g : Nat)

/-- some number lies in the variable -/
def someAt (h : H) (g : Nat) : Bool :=
  match h.get g with
  | some (.held c n _) => (match getV c 0 with
    | some (.sint .i64 _ _ _) => Nat.blt 0 n
    | _ => false)
  | _ => false

def prim (h : H) (p : Pm) (args : List AV) : Option AV :=
  match args with
  | [.str s, .str t] => (match p with
    | .idx1 => (match t with
      | [c] => (match okBytes s, Nat.blt c 256 with | true, true => some (.i64 (idxByte c s 0)) | _, _ => none)
      | _ => none)
    | .cnt1 => (match t with
      | [c] => (match okBytes s, Nat.blt c 256 with | true, true => some (.i64 (.ofNat (cntByte c s 0))) | _, _ => none)
      | _ => none)
    | .idx g => (match okBytes s, okBytes t with
      | true, true => (match Nat.blt s.length 100000, someAt h g with | true, true => some (.i64 (idxPart t s 0)) | _, _ => none)
      | _, _ => none))
  | _ => none

def findP (f : FuncId) (args : List AV) (h : H) : List (FuncId × Pm) → Option AV
  | [] => none
  | q :: r => (match Nat.beq q.1 f with
    | true => (match prim h q.2 args with | some v => some v | none => findP f args h r)
    | false => findP f args h r)

def PmOk (P : Program) (f : FuncId) : Pm → Prop
  | .idx1 => ∀ (s : ByteArray) (c : UInt8) (w : World), Calls P f #[.string s, .string ⟨#[c]⟩] w fun e w' => e = .returned (.int .i64 (Lib.indexByte s.data.toList c)) ∧ w' = w
  | .cnt1 => ∀ (s : ByteArray) (c : UInt8) (w : World), Calls P f #[.string s, .string ⟨#[c]⟩] w fun e w' => e = .returned (.int .i64 (Lib.countByte s.data.toList c)) ∧ w' = w
  | .idx g => ∀ (s t : ByteArray) (m : Int) (w : World), s.size < 4294967281 → w.cell? ⟨g, 0, none⟩ = some (.int .i64 m) →
      Calls P f #[.string s, .string t] w fun e w' => e = .returned (.int .i64 (Lib.index s.data.toList t.data.toList)) ∧ w' = w

def PmG (E : Env) : Pm → Bool
  | .idx g => Nat.blt g E.ng
  | _ => true

def PrimsOk (E : Env) (ps : List (FuncId × Pm)) : Prop := ∀ q ∈ ps, hasBody E q.1 = true ∧ PmG E q.2 = true ∧ PmOk E.P q.1 q.2

theorem PrimsOk.nil {E : Env} : PrimsOk E [] := fun q hq => by cases hq
theorem PrimsOk.cons {E : Env} {f : FuncId} {p : Pm} {ps : List (FuncId × Pm)} (hb : hasBody E f = true) (hg : PmG E p = true) (hp : PmOk E.P f p) (h : PrimsOk E ps) : PrimsOk E ((f, p) :: ps) := fun q hq => by
  rcases List.mem_cons.1 hq with rfl | hq
  · exact ⟨hb, hg, hp⟩
  · exact h q hq

theorem findP_mem {f : FuncId} {args : List AV} {h : H} {v : AV} : ∀ {ps : List (FuncId × Pm)}, findP f args h ps = some v → ∃ p, (f, p) ∈ ps ∧ prim h p args = some v
  | [], e => by cases e
  | q :: r, e => by
    simp only [findP] at e
    split at e
    · rename_i hq
      have := Nat.eq_of_beq_eq_true hq
      subst this
      split at e
      · rename_i hp
        cases e
        exact ⟨q.2, List.mem_cons_self .., hp⟩
      · obtain ⟨p, h1, h2⟩ := findP_mem e
        exact ⟨p, List.mem_cons_of_mem _ h1, h2⟩
    · obtain ⟨p, h1, h2⟩ := findP_mem e
      exact ⟨p, List.mem_cons_of_mem _ h1, h2⟩

section
variable {Y : Sy} {E : Env} {ρ : Rho} {h : H} {w : World}

theorem conc_strP {b : List Nat} {c : Value} (e : conc Y ρ (.str b) = some c) : okBytes b = true ∧ c = .string (bytesV b) := by
  unfold conc at e
  split at e
  · rename_i hb; cases e; exact ⟨hb, rfl⟩
  · cases e

theorem bytesV_one (c : Nat) : bytesV [c] = ⟨#[UInt8.ofNat c]⟩ := rfl

theorem idx_zero {n : Int} (_h : -1 ≤ n) : (if n = -1 then -1 else n + ((0 : Nat) : Int)) = n := by
  split <;> omega

/-- the variable's cell holds some number -/
theorem someAt_cell {g : Nat} (hr : Rel Y E ρ h w) (hg : Glob E ρ) (hng : Nat.blt g E.ng = true) (hs : someAt h g = true) : ∃ m, w.cell? ⟨g, 0, none⟩ = some (.int .i64 m) := by
  unfold someAt at hs
  split at hs
  · rename_i c n b hb
    split at hs
    · rename_i e l u hv
      obtain ⟨L, ob, hL, hblk, arr, elem, fz, rfl, _, _, hcells⟩ := hr.obj g _ hb rfl
      obtain ⟨cap, hgl⟩ := hg g (Nat.le_of_ble_eq_true hng)
      rw [hgl] at hL
      cases hL
      obtain ⟨_, _, cv, c1, c2⟩ := hcells 0 (.sint .i64 e l u) hv
      have hm : ∃ m, cv = .int .i64 m := by
        unfold conc at c1
        split at c1
        · cases c1; exact ⟨_, rfl⟩
        · cases c1
      obtain ⟨m, rfl⟩ := hm
      refine ⟨m, ?_⟩
      unfold World.cell?
      rw [hblk]
      simpa using c2
    · cases hs
  · cases hs

theorem prim_ok {f : FuncId} {p : Pm} {args : List AV} {v : AV} {cargs : List Value} (hp : PmOk E.P f p) (hpg : PmG E p = true) (hr : Rel Y E ρ h w) (hg : Glob E ρ) (ha : concs Y ρ args = some cargs) (hv : prim h p args = some v) :
    Calls E.P f cargs.toArray w fun e w' => ∃ cv, e = .returned cv ∧ conc Y ρ v = some cv ∧ w' = w := by
  unfold prim at hv
  split at hv
  · rename_i s t
    obtain ⟨c1, l1, e1, e2, rfl⟩ := concs_cons.1 ha
    obtain ⟨c2, l2, e3, e4, rfl⟩ := concs_cons.1 e2
    rw [concs_nil] at e4
    subst e4
    obtain ⟨o1, rfl⟩ := conc_strP e1
    obtain ⟨o2, rfl⟩ := conc_strP e3
    cases p with
    | idx1 =>
      dsimp only at hv
      split at hv
      · rename_i c
        split at hv
        · rename_i h1 h2
          cases hv
          have hc : c < 256 := (okB_cons o2).1
          refine (hp (bytesV s) (UInt8.ofNat c) w).mono fun e w' he => ⟨_, he.1, ?_, he.2⟩
          rw [bytesV_toList, idxByte_eq hc o1 0, idx_zero (Lib.indexByte_ge _ _)]
          rfl
        · cases hv
      · cases hv
    | cnt1 =>
      dsimp only at hv
      split at hv
      · rename_i c
        split at hv
        · rename_i h1 h2
          cases hv
          have hc : c < 256 := (okB_cons o2).1
          refine (hp (bytesV s) (UInt8.ofNat c) w).mono fun e w' he => ⟨_, he.1, ?_, he.2⟩
          rw [bytesV_toList, cntByte_eq hc o1 0]
          rfl
        · cases hv
      · cases hv
    | idx g =>
      dsimp only at hv
      split at hv
      · split at hv
        · rename_i h3 h4
          cases hv
          obtain ⟨m, hm⟩ := someAt_cell hr hg hpg h4
          have hsz : (bytesV s).size < 4294967281 := by
            have := Nat.le_of_ble_eq_true h3
            rw [bytesV_size]
            omega
          refine (hp (bytesV s) (bytesV t) m w hsz hm).mono fun e w' he => ⟨_, he.1, ?_, he.2⟩
          rw [bytesV_toList, bytesV_toList, idxPart_eq o2 o1 0, idx_zero (Lib.index_ge _ _)]
          rfl
        · cases hv
      · cases hv
  · cases hv
end

/-- an evaluator that knows calls (function by function), summaries, and what is reckoned -/
def evSp (E : Env) (ps : List (FuncId × Pm)) (gs : List (FuncId × List Known)) (ss : List Sum) (lf n : Nat) : Rec :=
  Nat.rec (motive := fun _ => Rec) (fun _ _ _ _ => false)
    (fun _ ih tgt => match tgt with
      | .fn f => fun args h k => (match findP f args h ps with
        | some v => k v h
        | none => (match findG f args gs with
          | some v => k v h
          | none => (match findS f args h ss with
            | some x => k x.1 x.2
            | none => (cFun E lf f).run ih args h k)))
      | .yield l => fun args h k => yieldK E lf ih l args h k
      | .dfn f => fun args h k => (cFunD E lf f).run ih args h k) n

section
variable {Y : Sy} {E : Env} {ρ : Rho} {h : H} {w : World}

theorem evSp_ok (hE : EnvOk Y E) {ps : List (FuncId × Pm)} (hps : PrimsOk E ps) {gs : List (FuncId × List Known)} (hkn : KnownOk Y E (flatG gs)) {ss : List Sum} (hss : SumsOk Y E ss) (lf : Nat) : ∀ n, RecOk Y E (evSp E ps gs ss lf n)
  | 0 => fun _ _ _ _ _ _ _ _ _ _ hk => by cases hk
  | n + 1 => fun tgt args h k ρ w cargs hr hg ha hk => by
    have ih := evSp_ok hE hps hkn hss lf n
    have hdraw : ∀ (L : Lv) nt, L.ng = E.ng → ∀ id ops, CodeOk Y E L nt (.region id ops true) (cDraw E L nt ops.toList) := fun _ _ hng id ops => draw_ok hE hng id ops
    cases tgt with
    | yield l => exact yield_ok hE hdraw ih hr hg ha hk
    | dfn f => exact funD_ok hE hdraw ih hr hg ha hk
    | fn f =>
      have hk' : (match findP f args h ps with
        | some v => k v h
        | none => (match findG f args gs with
          | some v => k v h
          | none => (match findS f args h ss with
            | some x => k x.1 x.2
            | none => (cFun E lf f).run (evSp E ps gs ss lf n) args h k))) = true := hk
      cases hpf : findP f args h ps with
      | some v =>
        rw [hpf] at hk'
        dsimp only at hk'
        obtain ⟨p, hp, hv⟩ := findP_mem hpf
        obtain ⟨hbody, hpg, hpo⟩ := hps _ hp
        refine ⟨callFunc_body hE hbody cargs, fun m => callsIn_wide.2 (Calls.mono (prim_ok hpo hpg hr hg ha hv) fun e w' hew => ?_)⟩
        obtain ⟨cv, rfl, hcv, rfl⟩ := hew
        exact ⟨ρ, h, v, Goes.of_below hr (RowKit.Below.refl _ w'), hcv, hk'⟩
      | none =>
        rw [hpf] at hk'
        dsimp only at hk'
        cases hf : findG f args gs with
        | none =>
          rw [hf] at hk'
          dsimp only at hk'
          cases hs : findS f args h ss with
          | none => rw [hs] at hk'; exact fun_ok hE hdraw ih hr hg ha hk'
          | some x =>
            rw [hs] at hk'
            dsimp only at hk'
            obtain ⟨q, hq, rfl, hap⟩ := findS_mem hs
            obtain ⟨v, h'⟩ := x
            obtain ⟨h1, rfl, h3, h4, h5, h6, rfl, rfl⟩ := apply_eq hap
            obtain ⟨hbody, hsum⟩ := hss q hq
            refine ⟨callFunc_body hE hbody cargs, fun m => callsIn_wide.2 ?_⟩
            have hrb : Rel Y E ρ q.before w := hr.sub (fun b o hb => by
              unfold Sum.before at hb
              rw [H.get_bare] at hb
              rcases get_putAll (b := b) q.old with ⟨_, o', ho', h2⟩ | ⟨_, h2⟩
              · rw [h2] at hb
                cases hb
                exact subH_mem h3 b _ ho'
              · rw [h2] at hb
                cases hb) h1
            refine Calls.mono (hsum ρ w cargs hrb hg ha) fun e w' hew => ?_
            obtain ⟨cv, ρ', rfl, hgo, hcv⟩ := hew
            exact ⟨ρ', _, q.v, Goes.frame hr h1 h3 h4 h5 h6 hgo, hcv, hk'⟩
        | some v =>
          rw [hf] at hk'
          dsimp only at hk'
          obtain ⟨q, hq, rfl, hs, rfl⟩ := findG_mem hf
          obtain ⟨hbody, hgive⟩ := hkn q hq
          obtain ⟨he, hfree⟩ := sameVs_eq (Y := Y) hs
          have ha0 : concs Y (fun _ => none) q.args = some cargs := by rw [← he, hfree _ ρ]; exact ha
          refine ⟨callFunc_body hE hbody cargs, fun m => callsIn_wide.2 (Calls.mono (hgive w cargs ha0) fun e w' hew => ?_)⟩
          obtain ⟨cv, rfl, hcv, hbel⟩ := hew
          exact ⟨ρ, h, q.v, Goes.of_below hr hbel, conc_mono (fun _ _ h => by cases h) hcv, hk'⟩
end

section
variable {Y : Sy} {E : Env} {w : World}

theorem sum_of_rec {R : Rec} (hR : RecOk Y E R) {q : Sum} (hb : hasBody E q.f = true) (hk : R (.fn q.f) q.args q.before q.ask = true) : SumOk Y E q := by
  refine ⟨hb, fun ρ w cargs hr hg ha => ?_⟩
  obtain ⟨_, h2⟩ := hR (.fn q.f) q.args q.before _ ρ w cargs hr hg ha hk
  refine callsIn_wide.1 (CallsIn.mono (h2 0) fun e w' h => ?_)
  cases e with
  | panicked c => exact h.elim
  | outgrown => exact h.elim
  | returned cv =>
    obtain ⟨ρ', h', av, hgo, hv, ht⟩ := h
    unfold Sum.ask at ht
    split at ht
    · rename_i h1 h2
      have e1 := eqAV_eq 8 _ _ h1
      have e2 := Nat.eq_of_beq_eq_true h2
      split at ht
      · rename_i h3
        subst e1
        have hsub : ∀ b o, q.behind.get b = some o → h'.get b = some o := by
          intro b o hb
          unfold Sum.behind at hb
          rw [H.get_bare] at hb
          rcases get_putAll (b := b) q.new with ⟨_, o', ho', k2⟩ | ⟨k1, k2⟩
          · rw [k2] at hb
            cases hb
            exact subH_mem h3 b _ ho'
          · rw [k2] at hb
            rcases get_putAll (b := b) q.old with ⟨_, o', ho', k3⟩ | ⟨_, k3⟩
            · rw [k3] at hb
              cases hb
              exact subH_mem ht b _ (mem_less ho' k1)
            · rw [k3] at hb
              cases hb
        have hnx : h'.next ≤ q.behind.next := by show h'.next ≤ q.stop; omega
        refine ⟨cv, ρ', rfl, ⟨hgo.le, hgo.rel.sub hsub hnx, hgo.frm, ⟨rfl, rfl, Nat.le_trans hgo.keeps.next hnx, (fun b hlt hm => ?_), fun b o hlt hb' ha => hgo.keeps.old b o hlt (hsub b o hb') ha⟩, hgo.made, hgo.same⟩, hv⟩
        have hraw := hgo.keeps.raw b hlt hm
        show getO (putAll q.new (putAll q.old .nil)) b = getO q.before.t b
        rcases get_putAll (b := b) q.new with ⟨_, o', ho', k2⟩ | ⟨_, k2⟩
        · rw [k2, ← hraw]
          exact (H.get_raw (subH_mem h3 b _ ho')).symm
        · rw [k2]
          rfl
      · cases ht
    · cases ht

/-- a call that is evaluated with no heap at hand -/
theorem laid_of_rec {R : Rec} (hR : RecOk Y E R) {gl : List (Nat × AObj)} {m : Nat} {f : FuncId} {args : List AV} {r : AV} (hm : E.ng ≤ m)
    (hk : R (.fn f) args (heapG gl m) (fun v _ => sameV v r) = true) {cargs : List Value} (hargs : concs Y (rhoG E.ng) args = some cargs) (hl : LaidW Y E gl w) :
    Calls E.P f cargs.toArray w fun e w' => ∃ cv, e = .returned cv ∧ conc Y (fun _ => none) r = some cv ∧ RowKit.Below w.heap.size w w' := by
  obtain ⟨_, h2⟩ := hR (.fn f) args (heapG gl m) _ (rhoG E.ng) w cargs (rel_laid hl hm) glob_laid hargs hk
  refine callsIn_wide.1 (CallsIn.mono (h2 0) fun e w' h => ?_)
  cases e with
  | panicked c => exact h.elim
  | outgrown => exact h.elim
  | returned v =>
    obtain ⟨ρ', h', av, hgo, hv, ht⟩ := h
    dsimp only at ht
    obtain ⟨rfl, hfree⟩ := sameV_eq (Y := Y) ht
    refine ⟨v, rfl, by rw [hfree _ ρ']; exact hv, hgo.frm.os, hgo.frm.tape, hgo.frm.output, hgo.frm.size, fun k hk' => hgo.frm.block k hk' fun b o L hb hw => ?_⟩
    exfalso
    have h1 := wr_prot hw
    have h2 : memN (heapG gl m).prot b = true := (memN_iff _ _).2 (List.mem_map.2 ⟨(b, o), heapG_get hb, rfl⟩)
    rw [h2] at h1
    cases h1

end
end
end Go.AE
