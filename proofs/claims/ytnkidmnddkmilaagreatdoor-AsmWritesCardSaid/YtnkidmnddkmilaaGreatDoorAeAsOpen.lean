/-
  An image that comes as an argument: its codes as they lie in memory.
-/
import Derived.Deep.Slices
import Derived.Deep.Fields
import Derived.Test.YtnkidmnddkmilaaGreatDoorAeAsFewD
namespace Go.Proofs.YtnkidmnddkmilaaGreatDoor
open Go.ChangeShapes Go.WideShapes Go.RowKit Go.Deep
set_option maxRecDepth 100000

section
variable {H : Type} {enc : TypeId × Value → H} {W : World} {base : Nat} {spare : Nat → Bool} {held : Bool}

theorem add_plain (b o i : Nat) : (⟨b, o, none⟩ : Addr).add i = ⟨b, o + i, none⟩ := by
  unfold Addr.add
  split
  · rename_i h; subst h; rfl
  · rfl

/-- a struct's cells and what they read as -/
def ElemOf (enc : TypeId × Value → H) (W : World) (base : Nat) (spare : Nat → Bool) (held : Bool) (fs : Array Field) (xl : List Value) (d : DataW H) : Prop :=
  ∃ (ys : List (DataW H × List MemPlace)) (m : Nat), d = .agg (ys.map (·.1)) ∧ xl.length = fs.size ∧ ys.length = fs.size ∧
    ∀ (j : Nat) (f : Field), fs[j]? = some f → ∃ v y, xl[j]? = some v ∧ ys[j]? = some y ∧ DataW.trod enc Tryz.prog W base spare held m f.type [v] = some y

/-- what a slice of so many reads as -/
def SliceOf (d : DataW H) (D : Nat → DataW H) (n : Nat) : Prop := (n = 0 ∧ d = .nil) ∨ ∃ r, d = .slice ((List.range n).map D) r

theorem open_rows {t e : TypeId} {fs : Array Field} {fuel : Nat} {v : Value} {y : DataW H × List MemPlace} (ht : Tryz.prog.underlying t = some (.slice e)) (he : Tryz.prog.underlying e = some (.struct fs))
    (hone : oneCellFields Tryz.prog fs = true) (hC : Tryz.prog.cellsOf e = fs.size) (hpos : 0 < fs.size) (h : DataW.trod enc Tryz.prog W base spare held fuel t [v] = some y) :
    ∃ (xs : List (List Value)) (D : Nat → DataW H), SlAt W W.heap.size fs.size v xs ∧ SliceOf y.1 D xs.length ∧ ∀ (i : Nat) (hi : i < xs.length), ElemOf enc W base spare held fs xs[i] (D i) := by
  rcases open_slice ht h with ⟨hc, hx⟩ | ⟨a, len, cap, m, n, D, Pl, hcs, hb, hl, hm, hmm, hx, hi⟩
  · cases hc
    exact ⟨[], fun _ => .nil, ⟨by simp, none, 0, rfl, fun h => absurd rfl h⟩, .inl ⟨rfl, by rw [hx]⟩, fun i hi => absurd hi (Nat.not_lt_zero _)⟩
  · cases hcs
    have hlm : len ≤ m := by rw [hmm]; split <;> omega
    obtain ⟨f, hf⟩ := choose_lt (n := len) (p := fun i cs' => W.cells? base (a.add (i * Tryz.prog.cellsOf e)) (Tryz.prog.cellsOf e) = some cs' ∧ DataW.trod enc Tryz.prog W base spare held n e cs' = some (D i, Pl i)) (fun i h => hi i (Nat.lt_of_lt_of_le h hlm))
    have hlen : ((List.range len).map f).length = len := by simp
    have hcell : ∀ i, i < len → (f i).length = fs.size ∧ ∀ j y, (f i)[j]? = some y → W.cell? (a.add (i * fs.size + j)) = some y := by
      intro i hi
      obtain ⟨h1, _⟩ := hf i hi
      rw [hC] at h1
      obtain ⟨_, hcl, hat⟩ := World.cells?_some h1
      refine ⟨hcl, fun j y hj => ?_⟩
      have hjl : j < fs.size := by rw [← hcl]; exact (List.getElem?_eq_some_iff.1 hj).1
      have := hat j hjl
      rw [add_add] at this
      rw [this, hj]
    refine ⟨(List.range len).map f, D, ⟨by rw [hlen]; have : maxLen = 9223372036854775807 := rfl; omega, some a, cap, by rw [hlen], fun hne => ?_⟩, .inr ⟨_, by rw [hx, hlen]⟩, fun i hi' => ?_⟩
    · have h0 : 0 < len := by
        rcases Nat.eq_zero_or_pos len with h | h
        · subst h; simp at hne
        · exact h
      obtain ⟨hl0, hc0⟩ := hcell 0 h0
      have hfirst := hc0 0 (f 0)[0] (List.getElem?_eq_getElem (by omega))
      obtain ⟨b, o, spot⟩ := a
      have hsp : spot = none := by simpa [Addr.add] using World.cell?_spot hfirst
      subst hsp
      refine ⟨b, o, rfl, ?_, fun i x hx j y hj => ?_⟩
      · rw [add_plain] at hfirst
        exact World.block_lt_of_cell? W _ hfirst
      · have hil : i < len := by
          have := (List.getElem?_eq_some_iff.1 hx).1
          simpa using this
        rw [List.getElem?_map, List.getElem?_range hil] at hx
        cases hx
        have := (hcell i hil).2 j y hj
        rw [add_plain, ← Nat.add_assoc] at this
        exact this
    · have hil : i < len := by simpa using hi'
      obtain ⟨h1, h2⟩ := hf i hil
      obtain ⟨ys, n', _, hy, hlc, hyl, hfj⟩ := DataW.trod_struct he h2
      obtain ⟨hfl, _⟩ := hcell i hil
      simp only [Prod.mk.injEq] at hy
      have hxi : ((List.range len).map f)[i] = f i := by simp
      rw [hxi]
      refine ⟨ys, n', hy.1, hfl, hyl, fun j fd hj => ?_⟩
      obtain ⟨ho, hk⟩ := hone_of hone j fd hj
      have hjl : j < fs.size := (Array.getElem?_eq_some_iff.1 hj).1
      have h3 := hfj j fd hj
      rw [ho, hk, take1_drop _ _ undef (by omega)] at h3
      refine ⟨(f i).getD j undef, ys[j]'(by omega), ?_, List.getElem?_eq_getElem (by omega), h3.trans (List.getElem?_eq_getElem (by omega))⟩
      rw [List.getD_eq_getElem?_getD, List.getElem?_eq_getElem (by omega)]
      rfl

/-- a list of rows as the rows of a list -/
theorem rows_list {X : Type} (C : X → List Value) (R : X → DataW H → Prop) : ∀ (xs : List (List Value)) (D : Nat → DataW H), (∀ (i : Nat) (hi : i < xs.length), ∃ x, xs[i] = C x ∧ R x (D i)) →
    ∃ l : List X, l.map C = xs ∧ ∀ (i : Nat) (hi : i < l.length), R l[i] (D i)
  | [], _, _ => ⟨[], rfl, fun i hi => absurd hi (Nat.not_lt_zero _)⟩
  | x :: r, D, h => by
    obtain ⟨y, hy, hr⟩ := h 0 (by simp)
    obtain ⟨l, hl, hR⟩ := rows_list C R r (fun i => D (i + 1)) (fun i hi => h (i + 1) (Nat.succ_lt_succ hi))
    refine ⟨y :: l, by rw [List.map_cons, hl, ← hy]; rfl, fun i hi => ?_⟩
    cases i with
    | zero => exact hr
    | succ i => exact hR i (by simpa using hi)

theorem wf64 {n : Int} (h : (Lit.int .i64 n).wf = true) : inI n := by
  simp only [Lit.wf, Bool.and_eq_true, decide_eq_true_eq] at h
  have e1 : IntKind.i64.min = -9223372036854775808 := by decide
  have e2 : IntKind.i64.max = 9223372036854775807 := by decide
  rw [e1, e2] at h
  exact h

/-! One field. -/
theorem int_field {t : TypeId} {m : Nat} {v : Value} {y : DataW H × List MemPlace} (ht : Tryz.prog.underlying t = some (.int .i64)) (h : DataW.trod enc Tryz.prog W base spare held m t [v] = some y) : ∃ n, v = .int .i64 n ∧ y = (.lit (.int .i64 n), []) ∧ inI n := by
  obtain ⟨n, h1, h2, h3⟩ := DataW.trod_int ht h
  cases h1
  exact ⟨n, rfl, h2, wf64 h3⟩
theorem str_field {t : TypeId} {m : Nat} {v : Value} {y : DataW H × List MemPlace} (ht : Tryz.prog.underlying t = some .string) (h : DataW.trod enc Tryz.prog W base spare held m t [v] = some y) : ∃ s : ByteArray, v = .string s ∧ y = (.lit (.string s.data.toList), []) := by
  obtain ⟨s, h1, h2, _⟩ := DataW.trod_string ht h
  cases h1
  exact ⟨s, rfl, h2⟩

theorem list4 {X : Type} {l : List X} (h : l.length = 4) {a b c d : X} (h0 : l[0]? = some a) (h1 : l[1]? = some b) (h2 : l[2]? = some c) (h3 : l[3]? = some d) : l = [a, b, c, d] := by
  match l, h with
  | [x0, x1, x2, x3], _ => simp at h0 h1 h2 h3; simp [h0, h1, h2, h3]
theorem list3 {X : Type} {l : List X} (h : l.length = 3) {a b c : X} (h0 : l[0]? = some a) (h1 : l[1]? = some b) (h2 : l[2]? = some c) : l = [a, b, c] := by
  match l, h with
  | [x0, x1, x2], _ => simp at h0 h1 h2; simp [h0, h1, h2]
theorem list8 {X : Type} {l : List X} (h : l.length = 8) {a0 a1 a2 a3 a4 a5 a6 a7 : X} (h0 : l[0]? = some a0) (h1 : l[1]? = some a1) (h2 : l[2]? = some a2) (h3 : l[3]? = some a3) (h4 : l[4]? = some a4) (h5 : l[5]? = some a5) (h6 : l[6]? = some a6) (h7 : l[7]? = some a7) : l = [a0, a1, a2, a3, a4, a5, a6, a7] := by
  match l, h with
  | [x0, x1, x2, x3, x4, x5, x6, x7], _ => simp at h0 h1 h2 h3 h4 h5 h6 h7; simp [h0, h1, h2, h3, h4, h5, h6, h7]

/-! What the rows are. -/
def RIns (x : InsL) (_ : DataW H) : Prop := okIns x
def RGu (x : GuL) (_ : DataW H) : Prop := inI x.f ∧ inI x.t ∧ inI x.g ∧ inI x.r
def RVal (x : ValL) (d : DataW H) : Prop := inI x.k ∧ inI x.n ∧ ∃ a b, d = .agg [a, b, .lit (.string x.s.data.toList)]
def RKey (x : KeyL) (d : DataW H) : Prop := inI x.k ∧ inI x.n ∧ ∃ a b, d = .agg [a, b, .lit (.string x.s.data.toList)]

/-- a slice of structs: its rows, in memory and as they read -/
def RowsOf {X : Type} (W : World) (C : X → List Value) (n : Nat) (R : X → DataW H → Prop) (v : Value) (d : DataW H) (l : List X) : Prop :=
  SlAt W W.heap.size n v (l.map C) ∧ ∃ D, SliceOf d D l.length ∧ ∀ (i : Nat) (hi : i < l.length), R l[i] (D i)

theorem open_of {X : Type} (C : X → List Value) (R : X → DataW H → Prop) {t e : TypeId} {fs : Array Field} {fuel : Nat} {v : Value} {y : DataW H × List MemPlace} (ht : Tryz.prog.underlying t = some (.slice e)) (he : Tryz.prog.underlying e = some (.struct fs))
    (hone : oneCellFields Tryz.prog fs = true) (hC : Tryz.prog.cellsOf e = fs.size) (hpos : 0 < fs.size)
    (helem : ∀ xl d, ElemOf enc W base spare held fs xl d → ∃ x, xl = C x ∧ R x d)
    (h : DataW.trod enc Tryz.prog W base spare held fuel t [v] = some y) : ∃ l, RowsOf W C fs.size R v y.1 l := by
  obtain ⟨xs, D, h1, h2, h3⟩ := open_rows ht he hone hC hpos h
  obtain ⟨l, hl, hR⟩ := rows_list C R xs D (fun i hi => helem _ _ (h3 i hi))
  subst hl
  rw [List.length_map] at h2
  exact ⟨l, h1, D, h2, hR⟩

theorem elem3 {fs : Array Field} {t0 t1 t2 : TypeId} (ht : fs.map (·.type) = #[t0, t1, t2]) {xl : List Value} {d : DataW H} (h : ElemOf enc W base spare held fs xl d) :
    ∃ (v0 v1 v2 : Value) (y0 y1 y2 : DataW H × List MemPlace) (m : Nat), xl = [v0, v1, v2] ∧ d = .agg [y0.1, y1.1, y2.1] ∧ DataW.trod enc Tryz.prog W base spare held m t0 [v0] = some y0 ∧ DataW.trod enc Tryz.prog W base spare held m t1 [v1] = some y1 ∧ DataW.trod enc Tryz.prog W base spare held m t2 [v2] = some y2 := by
  obtain ⟨ys, m, hd, hxl, hyl, hf⟩ := h
  have hs : fs.size = 3 := by have := congrArg Array.size ht; simpa using this
  have hget : ∀ (j : Nat) t, (#[t0, t1, t2] : Array TypeId)[j]? = some t → ∃ f, fs[j]? = some f ∧ f.type = t := fun j t hj => by
    rw [← ht, Array.getElem?_map, Option.map_eq_some_iff] at hj
    exact hj
  obtain ⟨f0, g0, rfl⟩ := hget 0 t0 rfl
  obtain ⟨v0, y0, a0, b0, c0⟩ := hf 0 f0 g0
  obtain ⟨f1, g1, rfl⟩ := hget 1 t1 rfl
  obtain ⟨v1, y1, a1, b1, c1⟩ := hf 1 f1 g1
  obtain ⟨f2, g2, rfl⟩ := hget 2 t2 rfl
  obtain ⟨v2, y2, a2, b2, c2⟩ := hf 2 f2 g2
  have hx := list3 (hxl.trans hs) a0 a1 a2
  have hy := list3 (hyl.trans hs) b0 b1 b2
  exact ⟨v0, v1, v2, y0, y1, y2, m, hx, by rw [hd, hy]; rfl, c0, c1, c2⟩

theorem elem4 {fs : Array Field} {t0 t1 t2 t3 : TypeId} (ht : fs.map (·.type) = #[t0, t1, t2, t3]) {xl : List Value} {d : DataW H} (h : ElemOf enc W base spare held fs xl d) :
    ∃ (v0 v1 v2 v3 : Value) (y0 y1 y2 y3 : DataW H × List MemPlace) (m : Nat), xl = [v0, v1, v2, v3] ∧ d = .agg [y0.1, y1.1, y2.1, y3.1] ∧ DataW.trod enc Tryz.prog W base spare held m t0 [v0] = some y0 ∧ DataW.trod enc Tryz.prog W base spare held m t1 [v1] = some y1 ∧ DataW.trod enc Tryz.prog W base spare held m t2 [v2] = some y2 ∧ DataW.trod enc Tryz.prog W base spare held m t3 [v3] = some y3 := by
  obtain ⟨ys, m, hd, hxl, hyl, hf⟩ := h
  have hs : fs.size = 4 := by have := congrArg Array.size ht; simpa using this
  have hget : ∀ (j : Nat) t, (#[t0, t1, t2, t3] : Array TypeId)[j]? = some t → ∃ f, fs[j]? = some f ∧ f.type = t := fun j t hj => by
    rw [← ht, Array.getElem?_map, Option.map_eq_some_iff] at hj
    exact hj
  obtain ⟨f0, g0, rfl⟩ := hget 0 t0 rfl
  obtain ⟨v0, y0, a0, b0, c0⟩ := hf 0 f0 g0
  obtain ⟨f1, g1, rfl⟩ := hget 1 t1 rfl
  obtain ⟨v1, y1, a1, b1, c1⟩ := hf 1 f1 g1
  obtain ⟨f2, g2, rfl⟩ := hget 2 t2 rfl
  obtain ⟨v2, y2, a2, b2, c2⟩ := hf 2 f2 g2
  obtain ⟨f3, g3, rfl⟩ := hget 3 t3 rfl
  obtain ⟨v3, y3, a3, b3, c3⟩ := hf 3 f3 g3
  have hx := list4 (hxl.trans hs) a0 a1 a2 a3
  have hy := list4 (hyl.trans hs) b0 b1 b2 b3
  exact ⟨v0, v1, v2, v3, y0, y1, y2, y3, m, hx, by rw [hd, hy]; rfl, c0, c1, c2, c3⟩

theorem elem8 {fs : Array Field} {t0 t1 t2 t3 t4 t5 t6 t7 : TypeId} (ht : fs.map (·.type) = #[t0, t1, t2, t3, t4, t5, t6, t7]) {xl : List Value} {d : DataW H} (h : ElemOf enc W base spare held fs xl d) :
    ∃ (v0 v1 v2 v3 v4 v5 v6 v7 : Value) (y0 y1 y2 y3 y4 y5 y6 y7 : DataW H × List MemPlace) (m : Nat), xl = [v0, v1, v2, v3, v4, v5, v6, v7] ∧ d = .agg [y0.1, y1.1, y2.1, y3.1, y4.1, y5.1, y6.1, y7.1] ∧ DataW.trod enc Tryz.prog W base spare held m t0 [v0] = some y0 ∧ DataW.trod enc Tryz.prog W base spare held m t1 [v1] = some y1 ∧ DataW.trod enc Tryz.prog W base spare held m t2 [v2] = some y2 ∧ DataW.trod enc Tryz.prog W base spare held m t3 [v3] = some y3 ∧ DataW.trod enc Tryz.prog W base spare held m t4 [v4] = some y4 ∧ DataW.trod enc Tryz.prog W base spare held m t5 [v5] = some y5 ∧ DataW.trod enc Tryz.prog W base spare held m t6 [v6] = some y6 ∧ DataW.trod enc Tryz.prog W base spare held m t7 [v7] = some y7 := by
  obtain ⟨ys, m, hd, hxl, hyl, hf⟩ := h
  have hs : fs.size = 8 := by have := congrArg Array.size ht; simpa using this
  have hget : ∀ (j : Nat) t, (#[t0, t1, t2, t3, t4, t5, t6, t7] : Array TypeId)[j]? = some t → ∃ f, fs[j]? = some f ∧ f.type = t := fun j t hj => by
    rw [← ht, Array.getElem?_map, Option.map_eq_some_iff] at hj
    exact hj
  obtain ⟨f0, g0, rfl⟩ := hget 0 t0 rfl
  obtain ⟨v0, y0, a0, b0, c0⟩ := hf 0 f0 g0
  obtain ⟨f1, g1, rfl⟩ := hget 1 t1 rfl
  obtain ⟨v1, y1, a1, b1, c1⟩ := hf 1 f1 g1
  obtain ⟨f2, g2, rfl⟩ := hget 2 t2 rfl
  obtain ⟨v2, y2, a2, b2, c2⟩ := hf 2 f2 g2
  obtain ⟨f3, g3, rfl⟩ := hget 3 t3 rfl
  obtain ⟨v3, y3, a3, b3, c3⟩ := hf 3 f3 g3
  obtain ⟨f4, g4, rfl⟩ := hget 4 t4 rfl
  obtain ⟨v4, y4, a4, b4, c4⟩ := hf 4 f4 g4
  obtain ⟨f5, g5, rfl⟩ := hget 5 t5 rfl
  obtain ⟨v5, y5, a5, b5, c5⟩ := hf 5 f5 g5
  obtain ⟨f6, g6, rfl⟩ := hget 6 t6 rfl
  obtain ⟨v6, y6, a6, b6, c6⟩ := hf 6 f6 g6
  obtain ⟨f7, g7, rfl⟩ := hget 7 t7 rfl
  obtain ⟨v7, y7, a7, b7, c7⟩ := hf 7 f7 g7
  have hx := list8 (hxl.trans hs) a0 a1 a2 a3 a4 a5 a6 a7
  have hy := list8 (hyl.trans hs) b0 b1 b2 b3 b4 b5 b6 b7
  exact ⟨v0, v1, v2, v3, v4, v5, v6, v7, y0, y1, y2, y3, y4, y5, y6, y7, m, hx, by rw [hd, hy]; rfl, c0, c1, c2, c3, c4, c5, c6, c7⟩

theorem open_ins {fuel : Nat} {v : Value} {y : DataW H × List MemPlace} (h : DataW.trod enc Tryz.prog W base spare held fuel 31 [v] = some y) : ∃ l, RowsOf W insC 4 RIns v y.1 l := by
  refine open_of insC RIns Tryz.underlying31 Tryz.underlying42 (by kernel_rfl) (by kernel_rfl) (by decide) (fun xl d he => ?_) h
  obtain ⟨v0, v1, v2, v3, y0, y1, y2, y3, m, rfl, rfl, h0, h1, h2, h3⟩ := elem4 (t0 := 3) (t1 := 3) (t2 := 3) (t3 := 3) (by simp) he
  obtain ⟨n0, rfl, rfl, k0⟩ := int_field Tryz.underlying3 h0
  obtain ⟨n1, rfl, rfl, k1⟩ := int_field Tryz.underlying3 h1
  obtain ⟨n2, rfl, rfl, k2⟩ := int_field Tryz.underlying3 h2
  obtain ⟨n3, rfl, rfl, k3⟩ := int_field Tryz.underlying3 h3
  exact ⟨⟨n0, n1, n2, n3⟩, rfl, k0, k1, k2, k3⟩

theorem open_gus {fuel : Nat} {v : Value} {y : DataW H × List MemPlace} (h : DataW.trod enc Tryz.prog W base spare held fuel 34 [v] = some y) : ∃ l, RowsOf W guC 4 RGu v y.1 l := by
  refine open_of guC RGu Tryz.underlying34 Tryz.underlying61 (by kernel_rfl) (by kernel_rfl) (by decide) (fun xl d he => ?_) h
  obtain ⟨v0, v1, v2, v3, y0, y1, y2, y3, m, rfl, rfl, h0, h1, h2, h3⟩ := elem4 (t0 := 3) (t1 := 3) (t2 := 3) (t3 := 3) (by simp) he
  obtain ⟨n0, rfl, rfl, k0⟩ := int_field Tryz.underlying3 h0
  obtain ⟨n1, rfl, rfl, k1⟩ := int_field Tryz.underlying3 h1
  obtain ⟨n2, rfl, rfl, k2⟩ := int_field Tryz.underlying3 h2
  obtain ⟨n3, rfl, rfl, k3⟩ := int_field Tryz.underlying3 h3
  exact ⟨⟨n0, n1, n2, n3⟩, rfl, k0, k1, k2, k3⟩

theorem open_vals {fuel : Nat} {v : Value} {y : DataW H × List MemPlace} (h : DataW.trod enc Tryz.prog W base spare held fuel 32 [v] = some y) : ∃ l, RowsOf W valC 3 RVal v y.1 l := by
  refine open_of valC RVal Tryz.underlying32 Tryz.underlying39 (by kernel_rfl) (by kernel_rfl) (by decide) (fun xl d he => ?_) h
  obtain ⟨v0, v1, v2, y0, y1, y2, m, rfl, rfl, h0, h1, h2⟩ := elem3 (t0 := 3) (t1 := 3) (t2 := 9) (by simp) he
  obtain ⟨n0, rfl, rfl, k0⟩ := int_field Tryz.underlying3 h0
  obtain ⟨n1, rfl, rfl, k1⟩ := int_field Tryz.underlying3 h1
  obtain ⟨s2, rfl, rfl⟩ := str_field Tryz.underlying9 h2
  exact ⟨⟨n0, n1, s2⟩, rfl, k0, k1, _, _, rfl⟩

theorem open_keys {fuel : Nat} {v : Value} {y : DataW H × List MemPlace} (h : DataW.trod enc Tryz.prog W base spare held fuel 33 [v] = some y) : ∃ l, RowsOf W keyC 3 RKey v y.1 l := by
  refine open_of keyC RKey Tryz.underlying33 Tryz.underlying40 (by kernel_rfl) (by kernel_rfl) (by decide) (fun xl d he => ?_) h
  obtain ⟨v0, v1, v2, y0, y1, y2, m, rfl, rfl, h0, h1, h2⟩ := elem3 (t0 := 3) (t1 := 3) (t2 := 9) (by simp) he
  obtain ⟨n0, rfl, rfl, k0⟩ := int_field Tryz.underlying3 h0
  obtain ⟨n1, rfl, rfl, k1⟩ := int_field Tryz.underlying3 h1
  obtain ⟨s2, rfl, rfl⟩ := str_field Tryz.underlying9 h2
  exact ⟨⟨n0, n1, s2⟩, rfl, k0, k1, _, _, rfl⟩

/-- a code -/
def RCode (W : World) (x : CodeV) (d : DataW H) : Prop :=
  inI x.c.kind ∧ inI x.c.len ∧ inI x.c.regs ∧ ∃ a1 a2 a3 dI dP dK dG, d = .agg [.lit (.string x.c.name.data.toList), a1, a2, a3, dI, dP, dK, dG] ∧
    RowsOf W insC 4 RIns x.vi dI x.c.ins ∧ RowsOf W valC 3 RVal x.vp dP x.c.pool ∧ RowsOf W keyC 3 RKey x.vk dK x.c.keys ∧ RowsOf W guC 4 RGu x.vg dG x.c.guards

theorem open_codes {fuel : Nat} {v : Value} {y : DataW H × List MemPlace} (h : DataW.trod enc Tryz.prog W base spare held fuel 22 [v] = some y) : ∃ l, RowsOf W codeC 8 (RCode W) v y.1 l := by
  refine open_of codeC (RCode W) Tryz.underlying22 Tryz.underlying36 (by kernel_rfl) (by kernel_rfl) (by decide) (fun xl d he => ?_) h
  obtain ⟨v0, v1, v2, v3, v4, v5, v6, v7, y0, y1, y2, y3, y4, y5, y6, y7, m, rfl, rfl, h0, h1, h2, h3, h4, h5, h6, h7⟩ := elem8 (t0 := 9) (t1 := 3) (t2 := 3) (t3 := 3) (t4 := 31) (t5 := 32) (t6 := 33) (t7 := 34) (by simp) he
  obtain ⟨s0, rfl, rfl⟩ := str_field Tryz.underlying9 h0
  obtain ⟨n1, rfl, rfl, k1⟩ := int_field Tryz.underlying3 h1
  obtain ⟨n2, rfl, rfl, k2⟩ := int_field Tryz.underlying3 h2
  obtain ⟨n3, rfl, rfl, k3⟩ := int_field Tryz.underlying3 h3
  obtain ⟨l4, r4⟩ := open_ins h4
  obtain ⟨l5, r5⟩ := open_vals h5
  obtain ⟨l6, r6⟩ := open_keys h6
  obtain ⟨l7, r7⟩ := open_gus h7
  exact ⟨⟨⟨s0, n1, n2, n3, l4, l5, l6, l7⟩, v4, v5, v6, v7⟩, rfl, k1, k2, k3, _, _, _, _, _, _, _, rfl, r4, r5, r6, r7⟩

theorem RowsOf.all {X : Type} {C : X → List Value} {n : Nat} {R : X → DataW H → Prop} {v : Value} {d : DataW H} {l : List X} {Q : X → Prop} (h : RowsOf W C n R v d l) (hq : ∀ x d, R x d → Q x) : ∀ x ∈ l, Q x := by
  obtain ⟨_, D, _, hR⟩ := h
  intro x hx
  obtain ⟨i, hi, rfl⟩ := List.getElem_of_mem hx
  exact hq _ _ (hR i hi)

theorem RCode.code {x : CodeV} {d : DataW H} (h : RCode W x d) : CodeAt W W.heap.size x.c x.vi x.vp x.vk x.vg ∧ Nums x.c := by
  obtain ⟨k1, k2, k3, _, _, _, _, _, _, _, _, r4, r5, r6, r7⟩ := h
  exact ⟨⟨r4.1, r5.1, r6.1, r7.1⟩, k1, k2, k3, r4.all fun _ _ h => h, r5.all fun _ _ h => ⟨h.1, h.2.1⟩, r6.all fun _ _ h => ⟨h.1, h.2.1⟩, r7.all fun _ _ h => h⟩

/-- an image that comes as an argument, by value -/
theorem open_image {fuel : Nat} {cs : List Value} {y : DataW H × List MemPlace} (h : DataW.trod enc Tryz.prog W base spare held fuel 24 cs = some y) : ∃ v d l, cs = [v] ∧ y.1 = .agg [d] ∧ RowsOf W codeC 8 (RCode W) v d l := by
  obtain ⟨xs, n, _, hy, hl, hxl, hf⟩ := DataW.trod_struct Tryz.underlying24 h
  have hC : Tryz.prog.cellsOf 24 = 1 := by kernel_rfl
  rw [hC] at hl
  match cs, hl, xs, hxl with
  | [v], _, [x], _ =>
    have h0 := hf 0 _ rfl
    simp only [List.getElem?_cons_zero] at h0
    obtain ⟨l, hl⟩ := open_codes h0
    exact ⟨v, x.1, l, rfl, by rw [hy]; rfl, hl⟩

end
end Go.Proofs.YtnkidmnddkmilaaGreatDoor
