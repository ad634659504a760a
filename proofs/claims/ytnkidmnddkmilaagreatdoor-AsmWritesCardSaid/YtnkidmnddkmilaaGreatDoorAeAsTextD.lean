/-
  The text of a code and of an image; what a builder's walk keeps.
-/
import Derived.Test.YtnkidmnddkmilaaGreatDoorAeAsWs
import Derived.Test.YtnkidmnddkmilaaGreatDoorAeAsHeld
import Derived.Test.YtnkidmnddkmilaaGreatDoorAeAsRRightB
namespace Go.Proofs.YtnkidmnddkmilaaGreatDoor
open Go.RowKit
set_option maxRecDepth 100000

def poolS (v : ValL) : List UInt8 := ([99, 111, 110, 115, 116, 32] ++ constL v) ++ [10]
def keyS (v : KeyL) : List UInt8 := ([107, 101, 121, 32] ++ keyL v) ++ [10]
def insS (x : InsL) : List UInt8 := lineL x ++ [10]
def guS (x : GuL) : List UInt8 := guardL x.f x.t x.g x.r ++ [10]
def headS (c : CodeL) : List UInt8 := headL c.name.data.toList c.kind c.len c.regs ++ [10]
def codeT (c : CodeL) : List UInt8 := headS c ++ c.pool.flatMap poolS ++ c.keys.flatMap keyS ++ c.ins.flatMap insS ++ c.guards.flatMap guS ++ [101, 110, 100, 10]
def textT (l : List CodeL) : List UInt8 := l.flatMap codeT

/-! Sizes. -/

theorem flat_len {X : Type} (f : X → List UInt8) (M : Nat) : ∀ l : List X, (∀ x ∈ l, (f x).length ≤ M) → (l.flatMap f).length ≤ M * l.length := by
  intro l
  induction l with
  | nil => intro _; simp
  | cons x r ih =>
    intro h
    have h1 := h x (by simp)
    have h2 := ih (fun y hy => h y (by simp [hy]))
    simp only [List.flatMap_cons, List.length_append, List.length_cons, Nat.mul_add, Nat.mul_one]
    omega

theorem itoa_len (n : Int) (h : inI n) : (Lib.itoa n).length ≤ 21 := by have := itoa_size n h; rwa [bs_size] at this

theorem quote_len2 (s : ByteArray) (h : s.size ≤ 1499) : (quoteL s.data.toList).length ≤ 6000 := by have := quote_size s h; rwa [bs_size] at this

theorem const_len (v : ValL) (hn : inI v.n) (hs : v.s.size ≤ 1499) : (constL v).length ≤ 6000 := by
  have h1 := itoa_len v.n hn
  have h2 := quote_len2 v.s hs
  unfold constL
  repeat' split
  all_goals simp <;> omega

theorem key_len (v : KeyL) (hn : inI v.n) (hs : v.s.size ≤ 1499) : (keyL v).length ≤ 6000 := by
  have h1 := itoa_len v.n hn
  have h2 := quote_len2 v.s hs
  unfold keyL
  repeat' split
  all_goals (try simp) <;> omega

theorem guard_len (x : GuL) (h : inI x.f ∧ inI x.t ∧ inI x.g ∧ inI x.r) : (guardL x.f x.t x.g x.r).length ≤ 6000 := by
  have h1 := itoa_len x.f h.1
  have h2 := itoa_len x.t h.2.1
  have h3 := itoa_len x.g h.2.2.1
  have h4 := itoa_len x.r h.2.2.2
  unfold guardL
  simp only [List.length_append, List.length_cons, List.length_nil]
  omega

theorem head_len (c : CodeL) (hw : Few c) (hn : Nums c) : (headL c.name.data.toList c.kind c.len c.regs).length ≤ 6200 := by
  have h1 := itoa_len c.kind hn.kind
  have h2 := itoa_len c.len hn.len
  have h3 := itoa_len c.regs hn.regs
  have h4 := quote_len2 c.name hw.name
  unfold headL
  simp only [List.length_append, List.length_cons, List.length_nil]
  omega

theorem poolT_len (c : CodeL) (hw : Few c) (hn : Nums c) (k : Nat) : ((c.pool.take k).flatMap poolS).length ≤ 6010 * 1499 := by
  have := flat_len poolS 6010 (c.pool.take k) (fun x hx => by
    have hx := List.mem_of_mem_take hx
    have := const_len x (hn.pool x hx).2 (hw.vs x hx)
    unfold poolS
    simp only [List.length_append, List.length_cons, List.length_nil]
    omega)
  have h2 : (c.pool.take k).length ≤ c.pool.length := by rw [List.length_take]; omega
  have h3 := hw.pool
  exact Nat.le_trans this (Nat.mul_le_mul_left _ (Nat.le_trans h2 h3))

theorem keysT_len (c : CodeL) (hw : Few c) (hn : Nums c) (k : Nat) : ((c.keys.take k).flatMap keyS).length ≤ 6010 * 1499 := by
  have := flat_len keyS 6010 (c.keys.take k) (fun x hx => by
    have hx := List.mem_of_mem_take hx
    have := key_len x (hn.keys x hx).2 (hw.ks x hx)
    unfold keyS
    simp only [List.length_append, List.length_cons, List.length_nil]
    omega)
  have h2 : (c.keys.take k).length ≤ c.keys.length := by rw [List.length_take]; omega
  have h3 := hw.keys
  exact Nat.le_trans this (Nat.mul_le_mul_left _ (Nat.le_trans h2 h3))

theorem insT_len (c : CodeL) (hw : Few c) (hn : Nums c) (k : Nat) : ((c.ins.take k).flatMap insS).length ≤ 6010 * 1499 := by
  have := flat_len insS 6010 (c.ins.take k) (fun x hx => by
    have hx := List.mem_of_mem_take hx
    obtain ⟨_, h1, h2, h3⟩ := hn.ins x hx
    have := line_len x h1 h2 h3
    unfold insS
    simp only [List.length_append, List.length_cons, List.length_nil]
    omega)
  have h2 : (c.ins.take k).length ≤ c.ins.length := by rw [List.length_take]; omega
  have h3 := hw.ins
  exact Nat.le_trans this (Nat.mul_le_mul_left _ (Nat.le_trans h2 h3))

theorem gusT_len (c : CodeL) (hw : Few c) (hn : Nums c) (k : Nat) : ((c.guards.take k).flatMap guS).length ≤ 6010 * 1499 := by
  have := flat_len guS 6010 (c.guards.take k) (fun x hx => by
    have hx := List.mem_of_mem_take hx
    have := guard_len x (hn.guards x hx)
    unfold guS
    simp only [List.length_append, List.length_cons, List.length_nil]
    omega)
  have h2 : (c.guards.take k).length ≤ c.guards.length := by rw [List.length_take]; omega
  have h3 := hw.guards
  exact Nat.le_trans this (Nat.mul_le_mul_left _ (Nat.le_trans h2 h3))

theorem headS_len (c : CodeL) (hw : Few c) (hn : Nums c) : (headS c).length ≤ 6201 := by
  have := head_len c hw hn
  unfold headS
  simp only [List.length_append, List.length_cons, List.length_nil]
  omega

theorem take_all {X : Type} (l : List X) : l.take l.length = l := List.take_length

theorem code_len (c : CodeL) (hw : Few c) (hn : Nums c) : (codeT c).length ≤ 40000000 := by
  have h0 := headS_len c hw hn
  have h1 := poolT_len c hw hn c.pool.length
  have h2 := keysT_len c hw hn c.keys.length
  have h3 := insT_len c hw hn c.ins.length
  have h4 := gusT_len c hw hn c.guards.length
  rw [take_all] at h1 h2 h3 h4
  unfold codeT
  simp only [List.length_append, List.length_cons, List.length_nil]
  omega

theorem text_len (l : List CodeL) (hl : l.length ≤ 1499) (hw : ∀ c ∈ l, Few c) (hn : ∀ c ∈ l, Nums c) (k : Nat) : (textT (l.take k)).length ≤ 40000000 * 1499 := by
  have := flat_len codeT 40000000 (l.take k) (fun x hx => by
    have hx := List.mem_of_mem_take hx
    exact code_len x (hw x hx) (hn x hx))
  have h2 : (l.take k).length ≤ l.length := by rw [List.length_take]; omega
  exact Nat.le_trans this (Nat.mul_le_mul_left _ (Nat.le_trans h2 hl))

/-! One more. -/

theorem take_flat {X : Type} (f : X → List UInt8) (l : List X) (k : Nat) (h : k < l.length) : (l.take (k + 1)).flatMap f = (l.take k).flatMap f ++ f l[k] := by
  rw [List.take_succ_eq_append_getElem h, List.flatMap_append]
  simp

/-! Right codes. -/

theorem right_parts {c : CodeL} (h : rightB c = true) : (∀ v ∈ c.pool, okK v.k v.n) ∧ (∀ v ∈ c.keys, v.k = 0 ∨ v.k = 1 ∨ v.k = 2) ∧ (∀ x ∈ c.ins, 0 ≤ x.op ∧ x.op < 55) := by
  unfold rightB at h
  simp only [Bool.and_eq_true, List.all_eq_true] at h
  obtain ⟨_, h1, h2, h3, _⟩ := h
  refine ⟨fun v hv => ?_, fun v hv => ?_, fun x hx => ?_⟩
  · have := h1 v hv
    unfold valB at this
    rw [decide_eq_true_eq] at this
    unfold ValOk at this
    unfold okK
    omega
  · have := h2 v hv
    unfold keyB at this
    rw [decide_eq_true_eq] at this
    unfold KeyOk at this
    omega
  · have := h3 x hx
    unfold insB at this
    split at this
    · cases this
    · omega

/-! What the walk keeps. -/

theorem Bd.below {B b : Nat} {l : List UInt8} {w w' : World} (h : Bd B b l w) (hb : Below w.heap.size w w') : Bd B b l w' := by
  refine ⟨?_, Nat.le_trans h.size hb.size⟩
  have key : ∀ p, Lib.BuilderAt 49 5 B b p (Lib.byteCells l) w → Lib.BuilderAt 49 5 B b p (Lib.byteCells l) w' := by
    intro p hp
    have hlt := hp.lt
    obtain ⟨hB, v, hbk, hown, hne⟩ := hp
    refine ⟨hB, v, by rw [hb.block b hlt]; exact hbk, ?_, hne⟩
    refine ⟨hown.1, ?_⟩
    rcases hown.2 with h0 | ⟨g, cap, cur, e, h1, h2, h3⟩
    · exact Or.inl h0
    · have hg : g < w.heap.size := by
        rcases Nat.lt_or_ge g w.heap.size with h' | h'
        · exact h'
        · simp [Array.getElem?_eq_none h'] at h2
      exact Or.inr ⟨g, cap, cur, e, h1, by rw [hb.block g hg]; exact h2, h3⟩
  rcases h.is with h | h
  · exact Or.inl (key _ h)
  · exact Or.inr (key _ h)

/-- the state of a round -/
structure TX (w0 : World) (b cb : Nat) (bx : Array Value) (l : List UInt8) (w : World) : Prop where
  bd : Bd w0.heap.size b l w
  bel : Below w0.heap.size w0 w
  box : w.heap[cb]? = some (.cells bx 36 (0, 0))
  ne : cb ≠ b

theorem TX.below {w0 w w' : World} {b cb : Nat} {bx : Array Value} {l : List UInt8} (h : TX w0 b cb bx l w) (hb : Below w.heap.size w w') : TX w0 b cb bx l w' := by
  have hlt : cb < w.heap.size := by
    have := h.box
    rcases Nat.lt_or_ge cb w.heap.size with h' | h'
    · exact h'
    · simp [Array.getElem?_eq_none h'] at this
  exact ⟨h.bd.below hb, h.bel.trans (hb.mono h.bel.size), by rw [hb.block cb hlt]; exact h.box, h.ne⟩

theorem TX.alloc {w0 w : World} {b cb : Nat} {bx : Array Value} {l : List UInt8} (h : TX w0 b cb bx l w) (ob : Obj) : TX w0 b cb bx l (w.alloc ob) :=
  h.below ((Below.refl _ _).alloc (Nat.le_refl _) _)

theorem TX.cell {w0 w : World} {b cb : Nat} {bx : Array Value} {l : List UInt8} (h : TX w0 b cb bx l w) (o : Nat) : w.cell? ⟨cb, o, none⟩ = bx[o]? := Lib.cell_of_heap h.box o

theorem TX.frozen {w0 w : World} {b cb : Nat} {bx : Array Value} {l : List UInt8} (h : TX w0 b cb bx l w) (o : Nat) : w.frozen? ⟨cb, o, none⟩ = false := Lib.frozen_of_heap h.box o

/-- asm.Text$1 -/
theorem say_ret (w0 : World) (b cb : Nat) (bx : Array Value) (l s : List UInt8) (w : World) (h : TX w0 b cb bx l w) (hl : l.length + s.length ≤ 100000000000000) :
    Calls Tryz.prog 12 #[.string (bs s), .pointer (some ⟨b, 0, none⟩)] w fun e w' => e = .returned (.tuple #[]) ∧ TX w0 b cb bx (l ++ (s ++ [10])) w' := by
  have hsz : ¬ (9223372036854775807 < (bs s).size + 1) := by rw [bs_size]; omega
  have hws := wsB_ret w0.heap.size b l (bs s ++ bs [10]) w h.bd (by rw [ByteArray.size_append, bs_size, bs_size]; simp; omega)
  have HS : Hid ((bs s ++ bs [10]).data.toList = s ++ [10]) := Lib.hid (by rw [bs_append, bs_data])
  rw [HS.out] at hws
  have HW := Lib.hid hws
  clear hws
  have H := Lib.hid h
  clear h
  go_enter Tryz.func12, Tryz.ntmps12
  go_wp2_with (go_at_call 13; refine HW.out.mono ?_; rintro e w1 ⟨rfl, h1, hb1, hs1⟩)
  go_end0
  exact ⟨rfl, ⟨h1, H.out.bel.trans hb1, hs1 _ _ _ _ H.out.ne (by decide) H.out.box, H.out.ne⟩⟩

end Go.Proofs.YtnkidmnddkmilaaGreatDoor
