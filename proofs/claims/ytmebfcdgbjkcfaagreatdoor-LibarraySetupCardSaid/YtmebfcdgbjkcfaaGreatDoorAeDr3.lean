/-
  Regions that draw: the invariant, and its steps.
-/
import Derived.Test.YtmebfcdgbjkcfaaGreatDoorAeDr2
namespace Go.AE

def isL (listed : Array Bool) (i : Nat) : Bool := listed.getD i true

theorem isL_set {listed : Array Bool} {i : Nat} (hi : isL listed i = false) (j : Nat) : isL (listed.setIfInBounds i true) j = if j = i then true else isL listed j := by
  have hlt : i < listed.size := by
    rcases Nat.lt_or_ge i listed.size with h | h
    · exact h
    · simp [isL, Array.getElem?_eq_none h] at hi
  unfold isL
  simp only [Array.getD_eq_getD_getElem?, Array.getElem?_setIfInBounds]
  by_cases hij : i = j
  · subst hij; simp [hlt]
  · rw [if_neg hij, if_neg (fun e => hij e.symm)]

/-- the blocks of the operations that have not been run -/
def unex (listed : Array Bool) (ev : List Rc) : List Nat := (ev.filter fun r => !isL listed r.i).filterMap fun r => r.blk

theorem mem_unex {listed : Array Bool} {ev : List Rc} {b : Nat} : b ∈ unex listed ev ↔ ∃ r ∈ ev, isL listed r.i = false ∧ r.blk = some b := by
  unfold unex
  rw [List.mem_filterMap]
  constructor
  · rintro ⟨r, hr, hb⟩
    rw [List.mem_filter] at hr
    exact ⟨r, hr.1, by simpa using hr.2, hb⟩
  · rintro ⟨r, hr, hl, hb⟩
    exact ⟨r, by rw [List.mem_filter]; exact ⟨hr, by simpa using hl⟩, hb⟩

def madeOf (ev : List Rc) : List Done := ev.filterMap fun r => r.blk.map fun b => ⟨r.i, b⟩

theorem mem_madeOf {ev : List Rc} {d : Done} : d ∈ madeOf ev ↔ ∃ r ∈ ev, r.i = d.i ∧ r.blk = some d.b := by
  unfold madeOf
  rw [List.mem_filterMap]
  constructor
  · rintro ⟨r, hr, hb⟩
    rw [Option.map_eq_some_iff] at hb
    obtain ⟨b, hb, rfl⟩ := hb
    exact ⟨r, hr, rfl, hb⟩
  · rintro ⟨r, hr, h1, h2⟩
    exact ⟨r, hr, by rw [h2, Option.map_some]; congr 1; cases d; simp_all⟩

theorem mem_maskOf {bs : T Nat} {i : Nat} : ∀ {l : List Done} {m : List Nat} {b : Nat}, b ∈ maskOf bs i l m ↔ b ∈ m ∨ ∃ d ∈ l, bef bs i d.i = false ∧ d.b = b
  | [], m, b => by simp [maskOf]
  | d :: r, m, b => by
    simp only [maskOf]
    cases hb : bef bs i d.i with
    | true =>
      rw [mem_maskOf]
      constructor
      · rintro (h | ⟨d', h1, h2, h3⟩)
        · exact .inl h
        · exact .inr ⟨d', by simp [h1], h2, h3⟩
      · rintro (h | ⟨d', h1, h2, h3⟩)
        · exact .inl h
        · rcases List.mem_cons.1 h1 with rfl | h1
          · rw [hb] at h2; cases h2
          · exact .inr ⟨d', h1, h2, h3⟩
    | false =>
      rw [List.mem_cons, mem_maskOf]
      constructor
      · rintro (rfl | h | ⟨d', h1, h2, h3⟩)
        · exact .inr ⟨d, by simp, hb, rfl⟩
        · exact .inl h
        · exact .inr ⟨d', by simp [h1], h2, h3⟩
      · rintro (h | ⟨d', h1, h2, h3⟩)
        · exact .inr (.inl h)
        · rcases List.mem_cons.1 h1 with rfl | h1
          · exact .inl h3.symm
          · exact .inr (.inr ⟨d', h1, h2, h3⟩)

theorem mem_doneAt {i : Nat} : ∀ {bl : List Nat} {l : List Done} {d : Done}, d ∈ doneAt i bl l ↔ (d.i = i ∧ d.b ∈ bl) ∨ d ∈ l
  | [], l, d => by simp [doneAt]
  | b :: r, l, d => by
    simp only [doneAt, List.mem_cons]
    rw [mem_doneAt]
    constructor
    · rintro (rfl | ⟨h1, h2⟩ | h)
      · exact .inl ⟨rfl, .inl rfl⟩
      · exact .inl ⟨h1, .inr h2⟩
      · exact .inr h
    · rintro (⟨h1, h2 | h2⟩ | h)
      · left; cases d; simp_all
      · exact .inr (.inl ⟨h1, h2⟩)
      · exact .inr (.inr h)

/-! ### Looking up -/
theorem look_append (t : Nat) : ∀ (A B : List Rc), look t (A ++ B) = match look t A with | some v => some v | none => look t B
  | [], B => rfl
  | r :: A, B => by
    simp only [List.cons_append, look]
    by_cases h : r.o.dst = some t
    · simp [h]
    · simp only [h, if_false]
      exact look_append t A B

theorem look_none {t : Nat} : ∀ {A : List Rc}, (∀ r ∈ A, r.o.dst ≠ some t) → look t A = none
  | [], _ => rfl
  | r :: A, h => by
    simp only [look]
    rw [if_neg (h r (by simp))]
    exact look_none fun r' hr' => h r' (by simp [hr'])

theorem look_filter {t : Nat} {p : Rc → Bool} : ∀ {A : List Rc}, (∀ r ∈ A, r.o.dst = some t → p r = true) → look t (A.filter p) = look t A
  | [], _ => rfl
  | r :: A, h => by
    have ih := look_filter (t := t) (p := p) (A := A) fun r' hr' => h r' (by simp [hr'])
    by_cases hd : r.o.dst = some t
    · rw [List.filter_cons_of_pos (h r (by simp) hd)]
      simp [look, hd]
    · cases hp : p r with
      | true => rw [List.filter_cons_of_pos hp]; simp [look, hd, ih]
      | false => rw [List.filter_cons_of_neg (by simp [hp])]; simp [look, hd, ih]

section
variable {Y : Sy} {E : Env} {ρ : Rho} {h : H} {w : World}

theorem LRel.insert {L : Lv} {A B : List Rc} {r : Rc} {tm : T AV} {a : Act} {cv : Value} (he : LRel Y ρ L (A ++ B) tm a.tmps) (hv : conc Y ρ r.v = some cv) (hd : ∀ d, r.o.dst = some d → d < a.tmps.size ∧ ∀ r' ∈ A, r'.o.dst ≠ some d) :
    LRel Y ρ L (A ++ r :: B) tm (a.put r.o.dst cv).tmps := by
  intro t
  by_cases hrt : r.o.dst = some t
  · obtain ⟨h1, h2⟩ := hd t hrt
    have hl : look t (A ++ r :: B) = some r.v := by
      rw [look_append, look_none h2]
      simp [look, hrt]
    rw [hl, hrt, getD_put h1, if_pos rfl]
    exact ⟨fun v hv' => by cases hv'; exact hv, fun hn => by cases hn⟩
  · have hl : look t (A ++ r :: B) = look t (A ++ B) := by
      rw [look_append, look_append]
      cases look t A with
      | some _ => rfl
      | none => simp [look, hrt]
    have ht : (a.put r.o.dst cv).tmps.getD t undef = a.tmps.getD t undef := by
      cases hdst : r.o.dst with
      | none => rfl
      | some d =>
        rw [getD_put (hd d hdst).1, if_neg]
        intro e
        rw [hdst, e] at hrt
        exact hrt rfl
    rw [hl, ht]
    exact he t

/-! ### Guards -/
theorem wanted_val {arr : Array Oper} {o : Oper} {a : Act} {d : Tmp} {want : Bool} {v : AV} {b : Bool} (hgu : guardOf arr.toList o.guard = some (some (d, want))) (hv : conc Y ρ v = some (a.tmps.getD d undef)) (hw : isWanted want v = some b) : Region.wanted o (yielded arr a.tmps) = b := by
  unfold guardOf at hgu
  split at hgu
  · cases hgu
  · rename_i j want' hgd
    rw [bnd_eq] at hgu
    obtain ⟨o', ho', hgu⟩ := hgu
    rw [bnd_eq] at hgu
    obtain ⟨d', hd', hgu⟩ := hgu
    cases hgu
    have ho2 : arr[j]? = some o' := by rw [← Array.getElem?_toList]; exact ho'
    unfold isWanted at hw
    split at hw
    · rename_i bb
      simp only [conc, Option.some.injEq] at hv
      have hget : a.tmps[d]? = some (.bool bb) := by
        rw [Array.getD_eq_getD_getElem?] at hv
        cases hq : a.tmps[d]? with
        | none => rw [hq] at hv; cases hv
        | some u => rw [hq] at hv; exact congrArg some hv.symm
      cases hw
      unfold Region.wanted
      rw [hgd]
      simp only [yielded, ho2, Option.bind_some, hd', hget]
      cases bb <;> cases want <;> rfl
    · cases hw
      have hu : a.tmps.getD d undef = undef := by
        simp only [conc, concs, Option.some.injEq] at hv
        exact hv.symm
      unfold Region.wanted
      rw [hgd]
      simp only [yielded, ho2, Option.bind_some, hd']
      cases hq : a.tmps[d]? with
      | none => rfl
      | some u =>
        have : u = undef := by
          rw [Array.getD_eq_getD_getElem?, hq] at hu
          exact hu
        subst this
        rfl
    · rename_i e ks bb
      have hbw : b = false ∧ bb ≠ want := by
        cases bb <;> cases want <;> simp_all
      obtain ⟨rfl, hbw⟩ := hbw
      simp only [conc] at hv
      have hget : a.tmps[d]? = some (.bool bb) ∨ a.tmps.getD d undef = undef := by
        split at hv
        · simp only [Option.some.injEq] at hv
          left
          rw [Array.getD_eq_getD_getElem?] at hv
          cases hq : a.tmps[d]? with
          | none => rw [hq] at hv; cases hv
          | some u => rw [hq] at hv; exact congrArg some hv.symm
        · simp only [Option.some.injEq] at hv
          exact .inr hv.symm
      unfold Region.wanted
      rw [hgd]
      simp only [yielded, ho2, Option.bind_some, hd']
      rcases hget with hget | hu
      · rw [hget]
        cases bb <;> cases want <;> first | rfl | exact absurd rfl hbw
      · cases hq : a.tmps[d]? with
        | none => rfl
        | some u =>
          have : u = undef := by
            rw [Array.getD_eq_getD_getElem?, hq] at hu
            exact hu
          subst this
          rfl
    · cases hw

theorem wanted_none {arr : Array Oper} {o : Oper} {a : Act} (hgu : guardOf arr.toList o.guard = some none) : Region.wanted o (yielded arr a.tmps) = true := by
  have : o.guard = none := by
    unfold guardOf at hgu
    split at hgu
    · rename_i hgn; exact hgn
    · rw [bnd_eq] at hgu
      obtain ⟨_, _, hgu⟩ := hgu
      rw [bnd_eq] at hgu
      obtain ⟨_, _, hgu⟩ := hgu
      cases hgu
  simp [Region.wanted, this]

/-- the guard lets the operation go, or not -/
def GuardIs (L : Lv) (tm : T AV) (ops : List Oper) (pre : List Rc) (o : Oper) (b : Bool) : Prop :=
  (guardOf ops o.guard = some none ∧ b = true) ∨ ∃ d want X, guardOf ops o.guard = some (some (d, want)) ∧ cX L (dsR pre) (.tmp d) = some X ∧ isWanted want (X tm (envR pre)) = some b

theorem GuardIs.wanted {L : Lv} (hng : L.ng = E.ng) (hg : Glob E ρ) {tm : T AV} {arr : Array Oper} {pre evS : List Rc} {o : Oper} {b : Bool} {a : Act} (hgi : GuardIs L tm arr.toList pre o b) (he : LRel Y ρ L evS tm a.tmps) (hag : ∀ t, t ∈ looks arr.toList o → look t evS = look t pre) :
    Region.wanted o (yielded arr a.tmps) = b := by
  rcases hgi with ⟨h1, rfl⟩ | ⟨d, want, X, h1, h2, h3⟩
  · exact wanted_none h1
  · have hv := cX_look (E := E) h2 he (fun t ht => by cases ht; exact hag d (looks_guard h1)) hg hng
    exact wanted_val h1 hv h3

/-- one operation of the evaluator: its guard -/
theorem cDraw1_eq {bs : T Nat} {L : Lv} {ops : List Oper} {pre : List Rc} {i : Nat} {o : Oper} {rc : Rec} {tm : T AV} {made seen : List Done} {k : AV → H → List Done → List Done → Bool} (hk : (cDraw1 E bs L ops (dsR pre) i o).run rc tm (envR pre) h made seen k = true) :
    (GuardIs L tm ops pre o true ∧ (drawK bs L (dsR pre) i (cOp E o.op)).run rc tm (envR pre) h made seen k = true) ∨ (GuardIs L tm ops pre o false ∧ k undefA h made seen = true) := by
  unfold cDraw1 at hk
  cases hgu : guardOf ops o.guard with
  | none => rw [hgu] at hk; cases hk
  | some g =>
    rw [hgu] at hk
    dsimp only at hk
    unfold guardD at hk
    cases g with
    | none => exact .inl ⟨.inl ⟨hgu, rfl⟩, hk⟩
    | some p =>
      obtain ⟨d, want⟩ := p
      dsimp only at hk
      cases hx : cX L (dsR pre) (.tmp d) with
      | none => rw [hx] at hk; cases hk
      | some X =>
        rw [hx] at hk
        dsimp only at hk
        cases hw : isWanted want (X tm (envR pre)) with
        | none => rw [hw] at hk; cases hk
        | some b =>
          rw [hw] at hk
          cases b with
          | true => exact .inl ⟨.inr ⟨d, want, X, hgu, hx, hw⟩, hk⟩
          | false => exact .inr ⟨.inr ⟨d, want, X, hgu, hx, hw⟩, hk⟩

/-! ### The invariant -/
def FactS (r : Rc) (H : H) (seen : List Done) : SRes → Prop
  | .val v => r.v = v ∧ r.blk = none
  | .read bl f => f H = some r.v ∧ r.blk = none ∧ ∀ b ∈ bl, b < H.next ∧ (⟨r.i, b⟩ : Done) ∈ seen
  | .new o mk => ∃ b, r.v = mk b ∧ r.blk = some b ∧ getO H.t b = some o ∧ b < H.next

/-- an operation that has been evaluated but not run -/
def Fact (E : Env) (L : Lv) (tm : T AV) (ops : List Oper) (pre : List Rc) (r : Rc) (H : H) (seen : List Done) : Prop :=
  (GuardIs L tm ops pre r.o false ∧ r.v = undefA ∧ r.blk = none) ∨ (GuardIs L tm ops pre r.o true ∧ ∃ S, Small L pre tm (cOp E r.o.op) S ∧ FactS r H seen S)

structure PInv (Y : Sy) (E : Env) (L : Lv) (nt : Nat) (rc : Rec) (tm : T AV) (arr : Array Oper) (ord : List Nat) (k : List AV → H → Bool) (ρ₀ : Rho) (h₀ : H) (w₀ : World) (a₀ : Act)
    (listed : Array Bool) (a : Act) (w : World) (ev : List Rc) (todo : List Nat) (ρ : Rho) (H : H) (seen : List Done) : Prop where
  split : ord = (ev.map fun r => r.i).reverse ++ todo
  opers : ∀ r ∈ ev, arr[r.i]? = some r.o
  run : (cDraws E (befs arr.toList) L arr.toList todo (dsR ev)).run rc tm (envR ev) H (madeOf ev) seen k = true
  unl : ∀ j ∈ todo, isL listed j = false
  bigs : ∀ r ∈ ev, bigAt E arr.toList r.i = true → isL listed r.i = true
  closed : ∀ i j, i < arr.size → j < arr.size → isL listed i = true → bef (befs arr.toList) i j = true → isL listed j = true
  le : ρ₀.le ρ
  rel : Rel Y E ρ (H.hide (unex listed ev)) w
  frm : Frm ρ₀ h₀ w₀ w
  keeps : Keeps h₀ H
  made : ∀ b M, ρ₀ b = none → ρ b = some M → w₀.heap.size ≤ M.blk ∨ ∃ c o N, h₀.get c = some o ∧ wr h₀ c o = true ∧ ρ₀ c = some N ∧ N.blk = M.blk
  same : ∀ b, b < h₀.next → ρ b = ρ₀ b
  nob : ∀ r ∈ ev, isL listed r.i = false → ∀ b, r.blk = some b → ρ b = none
  blkLt : ∀ r ∈ ev, ∀ b, r.blk = some b → h₀.next ≤ b ∧ b < H.next
  uniq : ∀ r ∈ ev, ∀ r' ∈ ev, ∀ b, r.blk = some b → r'.blk = some b → r.i = r'.i
  regs : LRel Y ρ L (ev.filter fun r => isL listed r.i) tm a.tmps
  facts : ∀ post r pre, ev = post ++ r :: pre → isL listed r.i = false → Fact E L tm arr.toList pre r H seen
  size : a.tmps.size = nt
  defers : a.defers = a₀.defers

/-- what the checks say -/
structure Checks (E : Env) (nt : Nat) (arr : Array Oper) (ord : List Nat) : Prop where
  pairs : ∀ (i j : Nat) (oi oj : Oper) (d : Tmp), arr[i]? = some oi → arr[j]? = some oj → i ≠ j → oj.dst = some d → (d ∈ looks arr.toList oi ∨ oi.dst = some d) → bef (befs arr.toList) i j = true ∨ bef (befs arr.toList) j i = true
  edges : ∀ (i : Nat) (o : Oper), arr[i]? = some o → ∀ e ∈ o.after, bindsA e = true → e.on < i
  ordk : ordOk E (befs arr.toList) arr.toList ord = true
  cover : ∀ i, i < arr.size → i ∈ ord
  close : ∀ (i : Nat) (o : Oper) (j : Nat), arr[i]? = some o → j < arr.size → bef (befs arr.toList) i j = true → ∃ e ∈ o.after, bindsA e = true ∧ (e.on = j ∨ bef (befs arr.toList) e.on j = true)
  dsts : ∀ (i : Nat) (o : Oper) (d : Tmp), arr[i]? = some o → o.dst = some d → d < nt

end
end Go.AE
