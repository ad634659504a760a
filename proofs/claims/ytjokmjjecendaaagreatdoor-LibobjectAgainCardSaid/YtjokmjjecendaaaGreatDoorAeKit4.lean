/-
  AeSum: Calls whose outcome is known already for a part of the heap: what was there, what is there now. A long run is cut at such calls.
  AeGlob: Runs that read the program's own variables: what these hold is known, and none is written.
  AeSnap: Blocks picked out of a snapshot of the heap.
-/
import Derived.Test.YtjokmjjecendaaaGreatDoorAeKit3

namespace Go.AE
noncomputable section

/-! ### Two values, two blocks -/
def eqFn : Fn → Fn → Bool
  | .func f, .func g => Nat.beq f g
  | .yield l, .yield m => Nat.beq l m
  | _, _ => false

def eqList {α : Type} (f : α → α → Bool) : List α → List α → Bool
  | [], [] => true
  | a :: x, b :: y => (match f a b with | true => eqList f x y | false => false)
  | _, _ => false

/-- 'ih': how their parts are told apart -/
def eqStep (ih : AV → AV → Bool) (x y : AV) : Bool :=
  match x, y with
  | .bool a, .bool b => eqB a b
  | .i64 a, .i64 b => eqI a b
  | .int k a, .int k' b => eqKind k k' && eqI a b
  | .str a, .str b => eqStr a b
  | .ptr a b, .ptr a' b' => Nat.beq a a' && Nat.beq b b'
  | .nilptr, .nilptr => true
  | .slice a b c d, .slice a' b' c' d' => Nat.beq a a' && (Nat.beq b b' && (Nat.beq c c' && Nat.beq d d'))
  | .gslice a b c d, .gslice a' b' c' d' => Nat.beq a a' && (Nat.beq b b' && (Nat.beq c c' && Nat.beq d d'))
  | .nilslice, .nilslice => true
  | .map a, .map b => Nat.beq a b
  | .nilmap, .nilmap => true
  | .func f a c, .func f' a' c' => eqFn f f' && (eqList ih a a' && eqList ih c c')
  | .nilfunc, .nilfunc => true
  | .iface t v, .iface t' v' => Nat.beq t t' && ih v v'
  | .niliface, .niliface => true
  | .agg l, .agg l' => eqList ih l l'
  | .tuple l, .tuple l' => eqList ih l l'
  | .sint k e lo hi, .sint k' e' lo' hi' => eqKind k k' && (eqX e e' && (eqI lo lo' && eqI hi hi'))
  | .sstr i lo hi, .sstr j lo' hi' => Nat.beq i j && (Nat.beq lo lo' && Nat.beq hi hi')
  | .eslice a b c d e, .eslice a' b' c' d' e' => Nat.beq a a' && (Nat.beq b b' && (Nat.beq c c' && (Nat.beq d d' && Nat.beq e e')))
  | .oslice i, .oslice j => Nat.beq i j
  | .opq i, .opq j => eqQ i j
  | .uslice a b c d e, .uslice a' b' c' d' e' => Nat.beq a a' && (Nat.beq b b' && (Nat.beq c c' && (Nat.beq d d' && Nat.beq e e')))
  | _, _ => false

/-- 'n': how deep it is looked at -/
def eqAV (n : Nat) : AV → AV → Bool := Nat.rec (motive := fun _ => AV → AV → Bool) (fun _ _ => false) (fun _ ih => eqStep ih) n

def eqOpt {α : Type} (f : α → α → Bool) : Option α → Option α → Bool
  | none, none => true
  | some a, some b => f a b
  | _, _ => false

def eqTV (t : T AV) : T AV → Bool :=
  T.rec (motive := fun _ => T AV → Bool) (fun u => match u with | .nil => true | .node _ _ _ => false)
    (fun _ v _ el er u =>
      match u with
      | .nil => false
      | .node l' v' r' => (match eqOpt (eqAV 8) v v' with | true => (match el l' with | true => er r' | false => false) | false => false)) t

def eqEnt (a b : AEnt) : Bool := eqAV 8 a.key b.key && (eqAV 8 a.val b.val && Nat.beq a.born b.born)

/-- rows and maps alone are told apart -/
def eqO : AObj → AObj → Bool
  | .cells c n gs, .cells c' n' gs' => Nat.beq n n' && (Nat.beq gs gs' && eqTV c c')
  | .map es cl, .map es' cl' => Nat.beq cl cl' && eqList eqEnt es es'
  | .dead, .dead => true
  | .held c n x, .held c' n' x' => Nat.beq n n' && (eqB x x' && eqTV c c')
  | _, _ => false

theorem eqFn_eq {a b : Fn} (h : eqFn a b = true) : a = b := by
  unfold eqFn at h
  split at h
  · rw [Nat.eq_of_beq_eq_true h]
  · rw [Nat.eq_of_beq_eq_true h]
  · cases h

theorem eqList_eq {α : Type} {f : α → α → Bool} (hf : ∀ a b, f a b = true → a = b) : ∀ {x y : List α}, eqList f x y = true → x = y
  | [], [], _ => rfl
  | a :: x, b :: y, h => by
    simp only [eqList] at h
    cases hab : f a b with
    | false => rw [hab] at h; cases h
    | true => rw [hab] at h; rw [hf a b hab, eqList_eq hf h]
  | [], _ :: _, h => by cases h
  | _ :: _, [], h => by cases h

theorem eqStep_eq {f : AV → AV → Bool} (ih : ∀ x y, f x y = true → x = y) {x y : AV} (h : eqStep f x y = true) : x = y := by
  unfold eqStep at h
  split at h
  · rename_i a b
    cases a <;> cases b <;> first | rfl | cases h
  · rw [eqI_iff] at h; rw [h]
  · simp only [Bool.and_eq_true] at h
    obtain ⟨h1, h2⟩ := h
    rw [eqI_iff] at h2
    rw [eqKind_eq h1, h2]
  · rw [eqStr_true h]
  · simp only [Bool.and_eq_true] at h
    rw [Nat.eq_of_beq_eq_true h.1, Nat.eq_of_beq_eq_true h.2]
  · rfl
  · simp only [Bool.and_eq_true] at h
    obtain ⟨h1, h2, h3, h4⟩ := h
    rw [Nat.eq_of_beq_eq_true h1, Nat.eq_of_beq_eq_true h2, Nat.eq_of_beq_eq_true h3, Nat.eq_of_beq_eq_true h4]
  · simp only [Bool.and_eq_true] at h
    obtain ⟨h1, h2, h3, h4⟩ := h
    rw [Nat.eq_of_beq_eq_true h1, Nat.eq_of_beq_eq_true h2, Nat.eq_of_beq_eq_true h3, Nat.eq_of_beq_eq_true h4]
  · rfl
  · rw [Nat.eq_of_beq_eq_true h]
  · rfl
  · simp only [Bool.and_eq_true] at h
    obtain ⟨h1, h2, h3⟩ := h
    rw [eqFn_eq h1, eqList_eq ih h2, eqList_eq ih h3]
  · rfl
  · simp only [Bool.and_eq_true] at h
    rw [Nat.eq_of_beq_eq_true h.1, ih _ _ h.2]
  · rfl
  · rw [eqList_eq ih h]
  · rw [eqList_eq ih h]
  · simp only [Bool.and_eq_true] at h
    obtain ⟨h1, h2, h3, h4⟩ := h
    rw [eqI_iff] at h3 h4
    rw [eqKind_eq h1, eqX_eq h2, h3, h4]
  · simp only [Bool.and_eq_true] at h
    obtain ⟨h1, h2, h3⟩ := h
    rw [Nat.eq_of_beq_eq_true h1, Nat.eq_of_beq_eq_true h2, Nat.eq_of_beq_eq_true h3]
  · simp only [Bool.and_eq_true] at h
    obtain ⟨h1, h2, h3, h4, h5⟩ := h
    rw [Nat.eq_of_beq_eq_true h1, Nat.eq_of_beq_eq_true h2, Nat.eq_of_beq_eq_true h3, Nat.eq_of_beq_eq_true h4, Nat.eq_of_beq_eq_true h5]
  · rw [Nat.eq_of_beq_eq_true h]
  · rw [eqQ_eq h]
  · simp only [Bool.and_eq_true] at h
    obtain ⟨h1, h2, h3, h4, h5⟩ := h
    rw [Nat.eq_of_beq_eq_true h1, Nat.eq_of_beq_eq_true h2, Nat.eq_of_beq_eq_true h3, Nat.eq_of_beq_eq_true h4, Nat.eq_of_beq_eq_true h5]
  · cases h

theorem eqAV_eq : ∀ (n : Nat) (x y : AV), eqAV n x y = true → x = y
  | 0, _, _, h => by cases h
  | n + 1, _, _, h => eqStep_eq (eqAV_eq n) h

theorem eqTV_eq : ∀ {t u : T AV}, eqTV t u = true → t = u := by
  intro t
  induction t with
  | nil =>
    intro u h
    cases u with
    | nil => rfl
    | node _ _ _ => cases h
  | node l v r hl hr =>
    intro u h
    cases u with
    | nil => cases h
    | node l' v' r' =>
      have e : eqTV (.node l v r) (.node l' v' r') = (match eqOpt (eqAV 8) v v' with | true => (match eqTV l l' with | true => eqTV r r' | false => false) | false => false) := rfl
      rw [e] at h
      cases h1 : eqOpt (eqAV 8) v v' with
      | false => rw [h1] at h; cases h
      | true =>
        rw [h1] at h
        dsimp only at h
        cases h2 : eqTV l l' with
        | false => rw [h2] at h; cases h
        | true =>
          rw [h2] at h
          have hv : v = v' := by
            unfold eqOpt at h1
            split at h1
            · rfl
            · rw [eqAV_eq 8 _ _ h1]
            · cases h1
          rw [hl h2, hr h, hv]

theorem eqEnt_eq {a b : AEnt} (h : eqEnt a b = true) : a = b := by
  unfold eqEnt at h
  simp only [Bool.and_eq_true] at h
  obtain ⟨h1, h2, h3⟩ := h
  cases a
  cases b
  simp only [AEnt.mk.injEq]
  exact ⟨eqAV_eq 8 _ _ h1, eqAV_eq 8 _ _ h2, Nat.eq_of_beq_eq_true h3⟩

theorem eqO_eq {a b : AObj} (h : eqO a b = true) : a = b := by
  unfold eqO at h
  split at h
  · simp only [Bool.and_eq_true] at h
    obtain ⟨h1, h2, h3⟩ := h
    rw [Nat.eq_of_beq_eq_true h1, Nat.eq_of_beq_eq_true h2, eqTV_eq h3]
  · simp only [Bool.and_eq_true] at h
    rw [Nat.eq_of_beq_eq_true h.1, eqList_eq (fun _ _ h => eqEnt_eq h) h.2]
  · rfl
  · rename_i x _ _ x'
    simp only [Bool.and_eq_true] at h
    obtain ⟨h1, h2, h3⟩ := h
    have e : x = x' := by cases x <;> cases x' <;> first | rfl | cases h2
    rw [Nat.eq_of_beq_eq_true h1, e, eqTV_eq h3]
  · cases h

/-! ### A call whose outcome is known -/
/-- 'old': what it finds; 'new': the blocks that it makes or turns; 'from', 'to': the next number before and behind it -/
structure Sum where
  f : FuncId
  args : List AV
  start : Nat
  old : List (Nat × AObj)
  v : AV
  new : List (Nat × AObj)
  stop : Nat
  /-- blocks that it leaves alone -/
  prot : List Nat := []

def putAll (l : List (Nat × AObj)) : T AObj → T AObj :=
  List.rec (motive := fun _ => T AObj → T AObj) (fun t => t) (fun p _ ih t => ih (putO t p.1 p.2)) l

/-- all of these blocks lie there -/
def subH (h : H) : List (Nat × AObj) → Bool
  | [] => true
  | (b, o) :: r =>
    match h.get b with
    | none => false
    | some o' => (match eqO o o' with | true => subH h r | false => false)

def memF (l : List (Nat × AObj)) (b : Nat) : Bool :=
  List.rec (motive := fun _ => Bool) false (fun p _ ih => Bool.rec (motive := fun _ => Bool) ih true (Nat.beq p.1 b)) l

def noneOf (l : List (Nat × AObj)) : List Nat → Bool
  | [] => true
  | b :: r => (match memF l b with | true => false | false => noneOf l r)

/-- what is held fast here is held fast there, or not known there -/
def heldOk (old : List (Nat × AObj)) (prot : List Nat) : List Nat → Bool
  | [] => true
  | b :: r => (match memF old b, memN prot b with | true, false => false | _, _ => heldOk old prot r)

/-- the blocks of 'l' that are not among 'm' -/
def less (m : List (Nat × AObj)) : List (Nat × AObj) → List (Nat × AObj)
  | [] => []
  | p :: r => (match memF m p.1 with | true => less m r | false => p :: less m r)

def Sum.apply (q : Sum) (args : List AV) (h : H) : Option (AV × H) :=
  match h with
  | ⟨t, n, m, p⟩ =>
    match Nat.ble n q.start, eqList (eqAV 8) q.args args with
    | true, true =>
      (match subH ⟨t, n, m, p⟩ q.old, noneOf q.new m, noneOf q.new p, heldOk q.old q.prot p with
       | true, true, true, true => some (q.v, ⟨putAll q.new t, q.stop, m, p⟩)
       | _, _, _, _ => none)
    | _, _ => none

def findS (f : FuncId) (args : List AV) (h : H) : List Sum → Option (AV × H)
  | [] => none
  | q :: r => (match Nat.beq q.f f with
    | true => (match q.apply args h with | some x => some x | none => findS f args h r)
    | false => findS f args h r)

/-- what is asked behind the call, in the run that shows it -/
def Sum.ask (q : Sum) : KV := fun v h =>
  match eqAV 8 q.v v, Nat.beq q.stop h.next with
  | true, true => (match subH h q.new with | true => subH h (less q.new q.old) | false => false)
  | _, _ => false

/-- the heap before it -/
def Sum.before (q : Sum) : H := ⟨putAll q.old .nil, q.start, [], q.prot⟩
def Sum.behind (q : Sum) : H := ⟨putAll q.new (putAll q.old .nil), q.stop, [], q.prot⟩

theorem memF_iff {l : List (Nat × AObj)} {b : Nat} : memF l b = true ↔ ∃ o, (b, o) ∈ l := by
  induction l with
  | nil => simp [memF]
  | cons p r ih =>
    have e : memF (p :: r) b = Bool.rec (motive := fun _ => Bool) (memF r b) true (Nat.beq p.1 b) := rfl
    rw [e]
    cases hb : Nat.beq p.1 b with
    | true =>
      have := Nat.eq_of_beq_eq_true hb
      subst this
      simp only [true_iff]
      exact ⟨p.2, by simp⟩
    | false =>
      have hne : p.1 ≠ b := Nat.ne_of_beq_eq_false hb
      show memF r b = true ↔ _
      rw [ih]
      constructor
      · rintro ⟨o, ho⟩; exact ⟨o, by simp [ho]⟩
      · rintro ⟨o, ho⟩
        rcases List.mem_cons.1 ho with h | h
        · exact absurd (by rw [← h]) hne
        · exact ⟨o, h⟩

theorem get_putAll {b : Nat} : ∀ (l : List (Nat × AObj)), (memF l b = true ∧ ∃ o, (b, o) ∈ l ∧ ∀ u, getO (putAll l u) b = some o) ∨ (memF l b = false ∧ ∀ u, getO (putAll l u) b = getO u b)
  | [] => .inr ⟨rfl, fun _ => rfl⟩
  | p :: r => by
    have e : ∀ u, putAll (p :: r) u = putAll r (putO u p.1 p.2) := fun _ => rfl
    have em : memF (p :: r) b = Bool.rec (motive := fun _ => Bool) (memF r b) true (Nat.beq p.1 b) := rfl
    rcases get_putAll (b := b) r with ⟨h1, o, ho, h2⟩ | ⟨h1, h2⟩
    · left
      refine ⟨by rw [em, h1]; cases Nat.beq p.1 b <;> rfl, o, by simp [ho], fun u => by rw [e, h2]⟩
    · cases hb : Nat.beq p.1 b with
      | true =>
        left
        have := Nat.eq_of_beq_eq_true hb
        subst this
        exact ⟨by rw [em, hb], p.2, by simp, fun u => by rw [e, h2, get_putO, if_pos rfl]⟩
      | false =>
        right
        have hne : p.1 ≠ b := Nat.ne_of_beq_eq_false hb
        exact ⟨by rw [em, hb]; exact h1, fun u => by rw [e, h2, get_putO, if_neg (fun e => hne e.symm)]⟩

theorem subH_mem {h : H} : ∀ {l : List (Nat × AObj)}, subH h l = true → ∀ b o, (b, o) ∈ l → h.get b = some o
  | [], _, b, o, hm => by cases hm
  | (c, p) :: r, hs, b, o, hm => by
    simp only [subH] at hs
    cases hg : h.get c with
    | none => rw [hg] at hs; cases hs
    | some o' =>
      rw [hg] at hs
      dsimp only at hs
      cases he : eqO p o' with
      | false => rw [he] at hs; cases hs
      | true =>
        rw [he] at hs
        rcases List.mem_cons.1 hm with h | h
        · cases h
          rw [hg, eqO_eq he]
        · exact subH_mem hs b o h

theorem noneOf_mem {l : List (Nat × AObj)} : ∀ {m : List Nat}, noneOf l m = true → ∀ b ∈ m, memF l b = false
  | [], _, b, hb => by cases hb
  | c :: m, h, b, hb => by
    simp only [noneOf] at h
    cases hc : memF l c with
    | true => rw [hc] at h; cases h
    | false =>
      rw [hc] at h
      rcases List.mem_cons.1 hb with rfl | hb
      · exact hc
      · exact noneOf_mem h b hb

theorem heldOk_mem {old : List (Nat × AObj)} {prot : List Nat} : ∀ {l : List Nat}, heldOk old prot l = true → ∀ b ∈ l, memF old b = true → memN prot b = true
  | [], _, b, hb => by cases hb
  | c :: l, h, b, hb => by
    intro hm
    simp only [heldOk] at h
    rcases List.mem_cons.1 hb with rfl | hb
    · rw [hm] at h
      cases hp : memN prot b with
      | true => rfl
      | false => rw [hp] at h; cases h
    · refine heldOk_mem (l := l) ?_ b hb hm
      cases h1 : memF old c <;> cases h2 : memN prot c <;> rw [h1, h2] at h <;> first | exact h | cases h

theorem mem_less {m : List (Nat × AObj)} : ∀ {l : List (Nat × AObj)} {p : Nat × AObj}, p ∈ l → memF m p.1 = false → p ∈ less m l
  | [], p, hp, _ => by cases hp
  | q :: l, p, hp, hm => by
    simp only [less]
    rcases List.mem_cons.1 hp with rfl | hp
    · rw [hm]; simp
    · cases hq : memF m q.1 with
      | true => exact mem_less hp hm
      | false => exact List.mem_cons_of_mem _ (mem_less hp hm)

section
variable {Y : Sy} {E : Env} {ρ : Rho} {h : H} {w : World}

theorem H.get_bare (t : T AObj) (n : Nat) (p : List Nat) (b : Nat) : H.get ⟨t, n, [], p⟩ b = getO t b := by
  rw [H.get_eq]; rfl

/-- a call that goes on with a part of the heap goes on with the whole -/
theorem Goes.frame {q : Sum} {ρ' : Rho} {w' : World} (hr : Rel Y E ρ h w) (hn : h.next ≤ q.start) (hsub : subH h q.old = true) (hm : noneOf q.new h.mask = true) (hp : noneOf q.new h.prot = true) (hh : heldOk q.old q.prot h.prot = true)
    (hg : Goes Y E ρ q.before w ρ' q.behind w') : Goes Y E ρ h w ρ' ⟨putAll q.new h.t, q.stop, h.mask, h.prot⟩ w' := by
  have hin : ∀ b o, q.before.get b = some o → h.get b = some o := by
    intro b o hb
    unfold Sum.before at hb
    rw [H.get_bare] at hb
    rcases get_putAll (b := b) q.old with ⟨_, o', ho', h2⟩ | ⟨_, h2⟩
    · rw [h2] at hb
      cases hb
      exact subH_mem hsub b _ ho'
    · rw [h2] at hb
      cases hb
  have hbe : ∀ b, q.behind.get b = getO (putAll q.new (putAll q.old .nil)) b := fun b => by unfold Sum.behind; rw [H.get_bare]
  have hbf : ∀ b, q.before.get b = getO (putAll q.old .nil) b := fun b => by unfold Sum.before; rw [H.get_bare]
  -- a block of the whole heap behind it
  have key : ∀ b o, H.get ⟨putAll q.new h.t, q.stop, h.mask, h.prot⟩ b = some o → (memF q.new b = true ∧ q.behind.get b = some o) ∨ (memF q.new b = false ∧ h.get b = some o ∧ (∀ p, q.before.get b = some p → q.behind.get b = some o)) := by
    intro b o hb
    rw [H.get_eq] at hb
    split at hb
    · cases hb
    · rename_i hmk
      have hb' : getO (putAll q.new h.t) b = some o := hb
      rcases get_putAll (b := b) q.new with ⟨h1, o', ho', h2⟩ | ⟨h1, h2⟩
      · left
        rw [h2] at hb'
        cases hb'
        exact ⟨h1, by rw [hbe, h2]⟩
      · right
        rw [h2] at hb'
        have hgo : h.get b = some o := by rw [H.get_eq, if_neg hmk]; exact hb'
        refine ⟨h1, hgo, fun p hp' => ?_⟩
        have := hin b p hp'
        rw [hgo] at this
        cases this
        rw [hbe, h2, ← hbf]
        exact hp'
  have hnx : q.start ≤ q.stop := hg.keeps.next
  have hwr : ∀ b o, q.before.get b = some o → wr q.before b o = true → wr h b o = true := by
    intro b o hb hw
    refine wr_mk (wr_alive hw) ?_
    cases hpb : memN h.prot b with
    | false => rfl
    | true =>
      have hmem : memF q.old b = true := by
        rw [hbf] at hb
        rcases get_putAll (b := b) q.old with ⟨h1, _⟩ | ⟨_, h2⟩
        · exact h1
        · rw [h2] at hb; cases hb
      have h1 := heldOk_mem hh b ((memN_iff _ _).1 hpb) hmem
      have h2 : memN q.prot b = false := wr_prot hw
      rw [h1] at h2
      cases h2
  -- where a block that the call does not know lies
  have apart : ∀ b o L, h.get b = some o → o.alive = true → ρ b = some L → q.before.get b = none → ∀ c p M, q.before.get c = some p → p.alive = true → ρ c = some M → M.blk ≠ L.blk := by
    intro b o L hb ha hL hnone c p M hc hpa hM e
    have := hr.inj c b p o M L (hin c p hc) hb hpa ha hM hL e
    subst this
    rw [hnone] at hc
    cases hc
  have obj : ∀ b o, H.get ⟨putAll q.new h.t, q.stop, h.mask, h.prot⟩ b = some o → o.alive = true → ∃ L ob, ρ' b = some L ∧ w'.heap[L.blk]? = some ob ∧ ORel Y E ρ' L o ob := by
    intro b o hb ha
    rcases key b o hb with ⟨_, h1⟩ | ⟨_, h1, h2⟩
    · exact hg.rel.obj b o h1 ha
    · cases hbb : q.before.get b with
      | some p => exact hg.rel.obj b o (h2 p hbb) ha
      | none =>
        obtain ⟨L, ob, k1, k2, k3⟩ := hr.obj b o h1 ha
        refine ⟨L, ob, hg.le _ _ k1, ?_, k3.mono hg.le⟩
        rw [hg.frm.block L.blk (hr.bound b L k1) fun c p M hc hpa hM => apart b o L h1 ha k1 hbb c p M hc (wr_alive hpa) hM]
        exact k2
  -- a block that the call knows and one that it does not
  have cross : ∀ b o L, h.get b = some o → o.alive = true → ρ b = some L → q.before.get b = none → ∀ c p M, q.behind.get c = some p → p.alive = true → ρ' c = some M → L.blk = M.blk → b = c := by
    intro b o L hb ha hL hnone c p M hc hpa hM e
    cases hρ : ρ c with
    | some M₀ =>
      have h1 := hg.le _ _ hρ
      rw [hM] at h1
      cases h1
      have hlt : c < q.before.next := by
        rcases Nat.lt_or_ge c q.start with h2 | h2
        · exact h2
        · rw [hr.fresh c (Nat.le_trans hn h2)] at hρ; cases hρ
      obtain ⟨o₀, h2, h3⟩ := hg.keeps.old c p hlt hc hpa
      exact absurd e.symm (apart b o L hb ha hL hnone c o₀ M h2 h3 hρ)
    | none =>
      rcases hg.made c M hρ hM with h1 | ⟨d, o₁, M₁, k1, k2, k3, k4⟩
      · have := hr.bound b L hL
        omega
      · exact absurd (k4.trans e.symm) (apart b o L hb ha hL hnone d o₁ M₁ k1 (wr_alive k2) k3)
  refine ⟨hg.le, ⟨obj, ?_, hg.rel.fresh, hg.rel.bound⟩, ⟨hg.frm.os, hg.frm.tape, hg.frm.output, hg.frm.size, fun c hc hno => hg.frm.block c hc fun b o L hb ha hL => hno b o L (hin b o hb) (hwr b o hb ha) hL⟩, ⟨rfl, rfl, Nat.le_trans hn hnx, ?_, ?_⟩, ?_, fun b hb => hg.same b (Nat.lt_of_lt_of_le hb hn)⟩
  · intro b c o p L M hb hc ha hpa hL hM e
    have hL' : ∀ x o L, h.get x = some o → o.alive = true → ρ' x = some L → ρ x = some L := by
      intro x o L hx hxa hxL
      obtain ⟨L₀, _, k1, _⟩ := hr.obj x o hx hxa
      have := hg.le _ _ k1
      rw [hxL] at this
      cases this
      exact k1
    rcases key b o hb with ⟨_, h1⟩ | ⟨_, h1, h2⟩
    · rcases key c p hc with ⟨_, k1⟩ | ⟨_, k1, k2⟩
      · exact hg.rel.inj b c o p L M h1 k1 ha hpa hL hM e
      · cases hcc : q.before.get c with
        | some p' => exact hg.rel.inj b c o p L M h1 (k2 p' hcc) ha hpa hL hM e
        | none => exact (cross c p M k1 hpa (hL' c p M k1 hpa hM) hcc b o L h1 ha hL e.symm).symm
    · cases hbb : q.before.get b with
      | none =>
        rcases key c p hc with ⟨_, k1⟩ | ⟨_, k1, k2⟩
        · exact cross b o L h1 ha (hL' b o L h1 ha hL) hbb c p M k1 hpa hM e
        · exact hr.inj b c o p L M h1 k1 ha hpa (hL' b o L h1 ha hL) (hL' c p M k1 hpa hM) e
      | some o' =>
        rcases key c p hc with ⟨_, k1⟩ | ⟨_, k1, k2⟩
        · exact hg.rel.inj b c o p L M (h2 o' hbb) k1 ha hpa hL hM e
        · exact hr.inj b c o p L M h1 k1 ha hpa (hL' b o L h1 ha hL) (hL' c p M k1 hpa hM) e
  · intro b _ hmp
    have hnb : memF q.new b = false := by
      rcases hmp with h1 | h1
      · exact noneOf_mem hm b ((memN_iff _ _).1 h1)
      · exact noneOf_mem hp b ((memN_iff _ _).1 h1)
    show getO (putAll q.new h.t) b = getO h.t b
    rcases get_putAll (b := b) q.new with ⟨h1, _⟩ | ⟨_, h2⟩
    · rw [hnb] at h1; cases h1
    · exact h2 _
  · intro b o hlt hb ha
    rcases key b o hb with ⟨_, h1⟩ | ⟨_, h1, _⟩
    · obtain ⟨o₀, k1, k2⟩ := hg.keeps.old b o (Nat.lt_of_lt_of_le hlt hn) h1 ha
      exact ⟨o₀, hin b o₀ k1, k2⟩
    · exact ⟨o, h1, ha⟩
  · intro b L h0 h1
    rcases hg.made b L h0 h1 with k | ⟨c, o, M, k1, k2, k3, k4⟩
    · exact .inl k
    · exact .inr ⟨c, o, M, hin c o k1, hwr c o k1 k2, k3, k4⟩

/-- what a call that is known does -/
def SumOk (Y : Sy) (E : Env) (q : Sum) : Prop :=
  hasBody E q.f = true ∧ ∀ (ρ : Rho) (w : World) (cargs : List Value), Rel Y E ρ q.before w → Glob E ρ → concs Y ρ q.args = some cargs →
    Calls E.P q.f cargs.toArray w fun e w' => ∃ cv ρ', e = .returned cv ∧ Goes Y E ρ q.before w ρ' q.behind w' ∧ conc Y ρ' q.v = some cv

def SumsOk (Y : Sy) (E : Env) (ss : List Sum) : Prop := ∀ q ∈ ss, SumOk Y E q

theorem SumsOk.nil : SumsOk Y E [] := fun q hq => by cases hq

theorem SumsOk.cons {q : Sum} {ss : List Sum} (hq : SumOk Y E q) (hs : SumsOk Y E ss) : SumsOk Y E (q :: ss) := by
  intro r hr
  rcases List.mem_cons.1 hr with rfl | hr
  · exact hq
  · exact hs r hr

theorem SumsOk.append {s t : List Sum} (hs : SumsOk Y E s) (ht : SumsOk Y E t) : SumsOk Y E (s ++ t) := by
  intro r hr
  rcases List.mem_append.1 hr with hr | hr
  · exact hs r hr
  · exact ht r hr

theorem apply_eq {q : Sum} {args : List AV} {v : AV} {h' : H} (ha : q.apply args h = some (v, h')) :
    h.next ≤ q.start ∧ q.args = args ∧ subH h q.old = true ∧ noneOf q.new h.mask = true ∧ noneOf q.new h.prot = true ∧ heldOk q.old q.prot h.prot = true ∧ v = q.v ∧ h' = ⟨putAll q.new h.t, q.stop, h.mask, h.prot⟩ := by
  obtain ⟨t, n, m, p⟩ := h
  unfold Sum.apply at ha
  dsimp only at ha
  split at ha
  · rename_i h1 h2
    split at ha
    · rename_i h3 h4 h5 h6
      cases ha
      exact ⟨Nat.le_of_ble_eq_true h1, eqList_eq (eqAV_eq 8) h2, h3, h4, h5, h6, rfl, rfl⟩
    · cases ha
  · cases ha

theorem findS_mem {f : FuncId} {args : List AV} {x : AV × H} : ∀ {ss : List Sum}, findS f args h ss = some x → ∃ q ∈ ss, q.f = f ∧ q.apply args h = some x
  | [], hf => by cases hf
  | q :: r, hf => by
    simp only [findS] at hf
    cases hb : Nat.beq q.f f with
    | false =>
      rw [hb] at hf
      obtain ⟨q', h1, h2⟩ := findS_mem hf
      exact ⟨q', List.mem_cons_of_mem _ h1, h2⟩
    | true =>
      rw [hb] at hf
      dsimp only at hf
      cases ha : q.apply args h with
      | some y =>
        rw [ha] at hf
        cases hf
        exact ⟨q, by simp, Nat.eq_of_beq_eq_true hb, ha⟩
      | none =>
        rw [ha] at hf
        obtain ⟨q', h1, h2⟩ := findS_mem hf
        exact ⟨q', List.mem_cons_of_mem _ h1, h2⟩

end

/-- the evaluator, with calls that are known -/
def evSm (E : Env) (kn : List Known) (ss : List Sum) (lf n : Nat) : Rec :=
  Nat.rec (motive := fun _ => Rec) (fun _ _ _ _ => false)
    (fun _ ih tgt => match tgt with
      | .fn f => fun args h k => (match findK f args kn with
        | some v => k v h
        | none => (match findS f args h ss with
          | some x => k x.1 x.2
          | none => (cFun E lf f).run ih args h k))
      | .yield l => fun args h k => yieldK E lf ih l args h k
      | .dfn f => fun args h k => (cFunD E lf f).run ih args h k) n

section
variable {Y : Sy} {E : Env} {ρ : Rho} {h : H} {w : World}

theorem callFunc_body (hE : EnvOk Y E) {f : FuncId} (hb : hasBody E f = true) (cargs : List Value) : (callFunc f cargs.toArray).run E.P w = .ok (.enter f cargs.toArray) w := by
  unfold hasBody at hb
  cases hft : E.ft.get f with
  | none => rw [hft] at hb; cases hb
  | some fn =>
    rw [hft] at hb
    dsimp only at hb
    cases hbd : fn.body with
    | none => rw [hbd] at hb; cases hb
    | some c =>
      have hfP := hE.ft f fn hft
      have hnm := hE.named f fn hft (by rw [hbd]; rfl)
      have hnm' : ¬ fn.name = "runtime.NumGoroutine" := by simpa using hnm
      simp [callFunc, hfP, hnm', hbd]

theorem evSm_ok (hE : EnvOk Y E) {kn : List Known} (hkn : KnownOk Y E kn) {ss : List Sum} (hss : SumsOk Y E ss) (lf : Nat) : ∀ n, RecOk Y E (evSm E kn ss lf n)
  | 0 => fun _ _ _ _ _ _ _ _ _ _ hk => by cases hk
  | n + 1 => fun tgt args h k ρ w cargs hr hg ha hk => by
    have ih := evSm_ok hE hkn hss lf n
    have hdraw : ∀ (L : Lv) nt, L.ng = E.ng → ∀ id ops, CodeOk Y E L nt (.region id ops true) (cDraw E L nt ops.toList) := fun _ _ hng id ops => draw_ok hE hng id ops
    cases tgt with
    | yield l => exact yield_ok hE hdraw ih hr hg ha hk
    | dfn f => exact funD_ok hE hdraw ih hr hg ha hk
    | fn f =>
      have hk' : (match findK f args kn with
        | some v => k v h
        | none => (match findS f args h ss with
          | some x => k x.1 x.2
          | none => (cFun E lf f).run (evSm E kn ss lf n) args h k)) = true := hk
      cases hf : findK f args kn with
      | none =>
        rw [hf] at hk'
        dsimp only at hk'
        cases hs : findS f args h ss with
        | none => rw [hs] at hk'; exact fun_ok hE hdraw ih hr hg ha hk'
        | some x =>
          rw [hs] at hk'
          dsimp only at hk'
          obtain ⟨q, hq, rfl, hap⟩ := findS_mem hs
          obtain ⟨v, h'⟩ := x
          obtain ⟨h1, rfl, h3, h4, h5, h6, rfl, rfl⟩ := apply_eq hap
          obtain ⟨hbody, hsum⟩ := hss q hq
          refine ⟨callFunc_body hE hbody cargs, fun m => callsIn_wide.2 ?_⟩
          have hrb : Rel Y E ρ q.before w := hr.sub (fun b o hb => by
            unfold Sum.before at hb
            rw [H.get_bare] at hb
            rcases get_putAll (b := b) q.old with ⟨_, o', ho', h2⟩ | ⟨_, h2⟩
            · rw [h2] at hb
              cases hb
              exact subH_mem h3 b _ ho'
            · rw [h2] at hb
              cases hb) h1
          refine Calls.mono (hsum ρ w cargs hrb hg ha) fun e w' hew => ?_
          obtain ⟨cv, ρ', rfl, hgo, hcv⟩ := hew
          exact ⟨ρ', _, q.v, Goes.frame hr h1 h3 h4 h5 h6 hgo, hcv, hk'⟩
      | some v =>
        rw [hf] at hk'
        dsimp only at hk'
        obtain ⟨q, hq, rfl, hs, rfl⟩ := findK_mem hf
        obtain ⟨hbody, hgive⟩ := hkn q hq
        obtain ⟨he, hfree⟩ := sameVs_eq (Y := Y) hs
        have ha0 : concs Y (fun _ => none) q.args = some cargs := by rw [← he, hfree _ ρ]; exact ha
        refine ⟨callFunc_body hE hbody cargs, fun m => callsIn_wide.2 (Calls.mono (hgive w cargs ha0) fun e w' hew => ?_)⟩
        obtain ⟨cv, rfl, hcv, hbel⟩ := hew
        exact ⟨ρ, h, q.v, Goes.of_below hr hbel, conc_mono (fun _ _ h => by cases h) hcv, hk'⟩

/-- a run shows what a call does -/
theorem sum_of_run (hE : EnvOk Y E) {kn : List Known} (hkn : KnownOk Y E kn) {ss : List Sum} (hss : SumsOk Y E ss) {lf n : Nat} {q : Sum} (hb : hasBody E q.f = true) (hk : evSm E kn ss lf n (.fn q.f) q.args q.before q.ask = true) : SumOk Y E q := by
  refine ⟨hb, fun ρ w cargs hr hg ha => ?_⟩
  obtain ⟨_, h2⟩ := evSm_ok hE hkn hss lf n (.fn q.f) q.args q.before _ ρ w cargs hr hg ha hk
  refine callsIn_wide.1 (CallsIn.mono (h2 0) fun e w' h => ?_)
  cases e with
  | panicked c => exact h.elim
  | outgrown => exact h.elim
  | returned cv =>
    obtain ⟨ρ', h', av, hgo, hv, ht⟩ := h
    unfold Sum.ask at ht
    split at ht
    · rename_i h1 h2
      have e1 := eqAV_eq 8 _ _ h1
      have e2 := Nat.eq_of_beq_eq_true h2
      split at ht
      · rename_i h3
        subst e1
        have hsub : ∀ b o, q.behind.get b = some o → h'.get b = some o := by
          intro b o hb
          unfold Sum.behind at hb
          rw [H.get_bare] at hb
          rcases get_putAll (b := b) q.new with ⟨_, o', ho', k2⟩ | ⟨k1, k2⟩
          · rw [k2] at hb
            cases hb
            exact subH_mem h3 b _ ho'
          · rw [k2] at hb
            rcases get_putAll (b := b) q.old with ⟨_, o', ho', k3⟩ | ⟨_, k3⟩
            · rw [k3] at hb
              cases hb
              exact subH_mem ht b _ (mem_less ho' k1)
            · rw [k3] at hb
              cases hb
        have hnx : h'.next ≤ q.behind.next := by show h'.next ≤ q.stop; omega
        refine ⟨cv, ρ', rfl, ⟨hgo.le, hgo.rel.sub hsub hnx, hgo.frm, ⟨rfl, rfl, Nat.le_trans hgo.keeps.next hnx, (fun b hlt hm => ?_), fun b o hlt hb' ha => hgo.keeps.old b o hlt (hsub b o hb') ha⟩, hgo.made, hgo.same⟩, hv⟩
        have hraw := hgo.keeps.raw b hlt hm
        show getO (putAll q.new (putAll q.old .nil)) b = getO q.before.t b
        rcases get_putAll (b := b) q.new with ⟨_, o', ho', k2⟩ | ⟨_, k2⟩
        · rw [k2, ← hraw]
          exact (H.get_raw (subH_mem h3 b _ ho')).symm
        · rw [k2]
          rfl
      · cases ht
    · cases ht

/-- a call that is evaluated with no heap at hand -/
theorem gives_of_sums (hE : EnvOk Y E) {kn : List Known} (hkn : KnownOk Y E kn) {ss : List Sum} (hss : SumsOk Y E ss) (hng : E.ng = 0) {lf n : Nat} {f : FuncId} {args : List AV} {r : AV} (hk : evSm E kn ss lf n (.fn f) args ⟨.nil, 0, [], []⟩ (fun v _ => sameV v r) = true) : Gives Y E f args r := by
  intro w cargs hargs
  have hr : Rel Y E (fun _ => none) ⟨.nil, 0, [], []⟩ w := by
    have hnone : ∀ b, H.get ⟨.nil, 0, [], []⟩ b = none := fun b => by rw [H.get_eq]; rfl
    refine ⟨fun b o h _ => ?_, fun b c o p L M h => ?_, fun _ _ => rfl, fun b L h => by cases h⟩
    · rw [hnone] at h; cases h
    · rw [hnone] at h; cases h
  have hg : Glob E (fun _ => none) := fun g h => by rw [hng] at h; exact absurd h (Nat.not_lt_zero _)
  obtain ⟨_, h2⟩ := evSm_ok hE hkn hss lf n (.fn f) args ⟨.nil, 0, [], []⟩ _ (fun _ => none) w cargs hr hg hargs hk
  refine callsIn_wide.1 (CallsIn.mono (h2 0) fun e w' h => ?_)
  cases e with
  | panicked c => exact h.elim
  | outgrown => exact h.elim
  | returned v =>
    obtain ⟨ρ', h', av, hgo, hv, ht⟩ := h
    dsimp only at ht
    obtain ⟨rfl, hfree⟩ := sameV_eq (Y := Y) ht
    refine ⟨v, rfl, by rw [hfree _ ρ']; exact hv, hgo.frm.os, hgo.frm.tape, hgo.frm.output, hgo.frm.size, fun k hk' => hgo.frm.block k hk' fun b o L hb => ?_⟩
    rw [H.get_eq] at hb
    cases hb

end
end
end Go.AE

namespace Go.AE

section
variable {Y : Sy} {E : Env} {w : World}

/-- the program's own variables lie at the heap's start -/
def rhoG (ng : Nat) : Rho := fun b => if b < ng then some ⟨b, 0, 0⟩ else none

/-- what the variables hold -/
def LaidW (Y : Sy) (E : Env) (gl : List (Nat × AObj)) (w : World) : Prop :=
  E.ng ≤ w.heap.size ∧ ∀ b o, (b, o) ∈ gl → b < E.ng ∧ ∃ ob, w.heap[b]? = some ob ∧ ORel Y E (rhoG E.ng) ⟨b, 0, 0⟩ o ob

/-- the heap at the start -/
noncomputable def heapG (gl : List (Nat × AObj)) (n : Nat) : H := ⟨putAll gl .nil, n, [], gl.map fun p => p.1⟩

theorem heapG_get {gl : List (Nat × AObj)} {n b : Nat} {o : AObj} (h : (heapG gl n).get b = some o) : (b, o) ∈ gl := by
  unfold heapG at h
  rw [H.get_bare] at h
  rcases get_putAll (b := b) gl with ⟨_, o', ho', h2⟩ | ⟨_, h2⟩
  · rw [h2] at h
    cases h
    exact ho'
  · rw [h2] at h
    cases h

theorem rel_laid {gl : List (Nat × AObj)} {n : Nat} (hl : LaidW Y E gl w) (hn : E.ng ≤ n) : Rel Y E (rhoG E.ng) (heapG gl n) w := by
  refine ⟨fun b o hb _ => ?_, fun b c o p L M _ _ _ _ hL hM e => ?_, fun b hb => ?_, fun b L hL => ?_⟩
  · obtain ⟨h1, ob, h2, h3⟩ := hl.2 b o (heapG_get hb)
    exact ⟨⟨b, 0, 0⟩, ob, by simp [rhoG, h1], h2, h3⟩
  · unfold rhoG at hL hM
    split at hL <;> split at hM <;> first | cases hL | skip
    · cases hM
      exact e
    · cases hM
  · have hb' : n ≤ b := hb
    have : ¬ b < E.ng := by omega
    simp [rhoG, this]
  · unfold rhoG at hL
    split at hL
    · rename_i h
      cases hL
      have := hl.1
      show b < w.heap.size
      omega
    · cases hL

theorem glob_laid : Glob E (rhoG E.ng) := fun g hg => ⟨0, by simp [rhoG, hg]⟩

/-- a call that is evaluated where the variables hold what is known -/
theorem laid_run (hE : EnvOk Y E) {kn : List Known} (hkn : KnownOk Y E kn) {ss : List Sum} (hss : SumsOk Y E ss) {gl : List (Nat × AObj)} {lf n m : Nat} {f : FuncId} {args : List AV} {r : AV} (hm : E.ng ≤ m)
    (hk : evSm E kn ss lf n (.fn f) args (heapG gl m) (fun v _ => sameV v r) = true) {cargs : List Value} (hargs : concs Y (rhoG E.ng) args = some cargs) (hl : LaidW Y E gl w) :
    Calls E.P f cargs.toArray w fun e w' => ∃ cv, e = .returned cv ∧ conc Y (fun _ => none) r = some cv ∧ RowKit.Below w.heap.size w w' := by
  obtain ⟨_, h2⟩ := evSm_ok hE hkn hss lf n (.fn f) args (heapG gl m) _ (rhoG E.ng) w cargs (rel_laid hl hm) glob_laid hargs hk
  refine callsIn_wide.1 (CallsIn.mono (h2 0) fun e w' h => ?_)
  cases e with
  | panicked c => exact h.elim
  | outgrown => exact h.elim
  | returned v =>
    obtain ⟨ρ', h', av, hgo, hv, ht⟩ := h
    dsimp only at ht
    obtain ⟨rfl, hfree⟩ := sameV_eq (Y := Y) ht
    refine ⟨v, rfl, by rw [hfree _ ρ']; exact hv, hgo.frm.os, hgo.frm.tape, hgo.frm.output, hgo.frm.size, fun k hk' => hgo.frm.block k hk' fun b o L hb hw => ?_⟩
    exfalso
    have h1 := wr_prot hw
    have h2 : memN (heapG gl m).prot b = true := (memN_iff _ _).2 (List.mem_map.2 ⟨(b, o), heapG_get hb, rfl⟩)
    rw [h2] at h1
    cases h1

/-- a row of known cells -/
theorem orel_row {ρ : Rho} {g : Nat} {vs : List AV} {cs : List Value} {arr : Array Value} {elem : TypeId} (hv : concs Y ρ vs = some cs) (hc : vs.all isCell = true) (ha : ∀ (i : Nat) v, cs[i]? = some v → arr[i]? = some v) (hn : cs.length ≤ arr.size) :
    ORel Y E ρ ⟨g, 0, 0⟩ (rowObj vs 0) (.cells arr elem) := by
  have e : rowObj vs 0 = .cells (ofListV vs) vs.length 0 := by unfold rowObj; rw [forceN_eq]
  rw [e]
  have hl := concs_length hv
  refine ⟨arr, elem, rfl, ?_, fun h => absurd rfl h, fun i v hi => ?_⟩
  · show 0 + vs.length ≤ arr.size
    omega
  · rw [get_ofListV] at hi
    obtain ⟨cv, h1, h2⟩ := concs_getElem hv i v hi
    have hlt : i < vs.length := by
      rcases Nat.lt_or_ge i vs.length with h | h
      · exact h
      · rw [List.getElem?_eq_none h] at hi; cases hi
    refine ⟨hlt, List.all_eq_true.1 hc v (List.mem_of_getElem? hi), cv, h1, ?_⟩
    show arr[0 + i]? = some cv
    rw [Nat.zero_add]
    exact ha i cv h2

/-- what is known of numbers is nothing to a summary -/
theorem SumOk.facts {q : Sum} (fs : List (SX × Int × Int)) (h : SumOk Y E q) : SumOk Y { E with facts := fs } q := by
  refine ⟨h.1, fun ρ w cargs hr hg ha => ?_⟩
  refine (h.2 ρ w cargs ⟨hr.obj, hr.inj, hr.fresh, hr.bound⟩ hg ha).mono fun e w' hw => ?_
  obtain ⟨cv, ρ', h1, hgo, h2⟩ := hw
  exact ⟨cv, ρ', h1, ⟨hgo.le, ⟨hgo.rel.obj, hgo.rel.inj, hgo.rel.fresh, hgo.rel.bound⟩, hgo.frm, hgo.keeps, hgo.made, hgo.same⟩, h2⟩

theorem SumOk.envO {q : Sum} (fs : List (SX × Int × Int)) (os : List Orc) (h : SumOk Y E q) : SumOk Y (envO E fs os) q := by
  refine ⟨h.1, fun ρ w cargs hr hg ha => ?_⟩
  refine (h.2 ρ w cargs ⟨hr.obj, hr.inj, hr.fresh, hr.bound⟩ hg ha).mono fun e w' hw => ?_
  obtain ⟨cv, ρ', h1, hgo, h2⟩ := hw
  exact ⟨cv, ρ', h1, ⟨hgo.le, ⟨hgo.rel.obj, hgo.rel.inj, hgo.rel.fresh, hgo.rel.bound⟩, hgo.frm, hgo.keeps, hgo.made, hgo.same⟩, h2⟩

theorem SumsOk.envO {ss : List Sum} (fs : List (SX × Int × Int)) (os : List Orc) (h : SumsOk Y E ss) : SumsOk Y (envO E fs os) ss := fun q hq => (h q hq).envO fs os

theorem Gives.envO {f : FuncId} {args : List AV} {v : AV} (fs : List (SX × Int × Int)) (os : List Orc) (h : Gives Y E f args v) : Gives Y (envO E fs os) f args v := fun w cargs hc => h w cargs hc

theorem SumsOk.facts {ss : List Sum} (fs : List (SX × Int × Int)) (h : SumsOk Y E ss) : SumsOk Y { E with facts := fs } ss := fun q hq => (h q hq).facts fs

end
end Go.AE

namespace Go.AE
noncomputable section

def pickFrom (t : T AObj) (b n : Nat) (l : List (Nat × AObj)) : List (Nat × AObj) :=
  Nat.rec (motive := fun _ => List (Nat × AObj)) l (fun m ih => forceN (Nat.add b m) fun c => Option.rec (motive := fun _ => List (Nat × AObj)) ih (fun o => (c, o) :: ih) (getO t c)) n

/-- the blocks of these ranges (from, how many) -/
def pickO (t : T AObj) : List (Nat × Nat) → List (Nat × AObj)
  | [] => []
  | (b, n) :: r => pickFrom t b n (pickO t r)

end
end Go.AE
