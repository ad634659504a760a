/-
  Images of codes in memory.
-/
import Derived.Test.YtnkidmnddkmilaaGreatDoorAeAsLineP
namespace Go.Proofs.YtnkidmnddkmilaaGreatDoor
open Go.RowKit
set_option maxRecDepth 100000

structure GuL where
  f : Int
  t : Int
  g : Int
  r : Int
structure CodeL where
  name : ByteArray
  kind : Int
  len : Int
  regs : Int
  ins : List InsL
  pool : List ValL
  keys : List KeyL
  guards : List GuL

def insC (x : InsL) : List Value := [.int .i64 x.op, .int .i64 x.a, .int .i64 x.b, .int .i64 x.c]
def valC (x : ValL) : List Value := [.int .i64 x.k, .int .i64 x.n, .string x.s]
def keyC (x : KeyL) : List Value := [.int .i64 x.k, .int .i64 x.n, .string x.s]
def guC (x : GuL) : List Value := [.int .i64 x.f, .int .i64 x.t, .int .i64 x.g, .int .i64 x.r]

/-- a slice of structs of n cells, in a block below B -/
def SlAt (w : World) (B n : Nat) (v : Value) (xs : List (List Value)) : Prop :=
  xs.length ≤ 9223372036854775807 ∧ ∃ (a : Option Addr) (cap : Nat), v = .slice a xs.length cap ∧
    (xs ≠ [] → ∃ bk o, a = some ⟨bk, o, none⟩ ∧ bk < B ∧ ∀ i x, xs[i]? = some x → ∀ j y, x[j]? = some y → w.cell? ⟨bk, o + i * n + j, none⟩ = some y)

theorem SlAt.below {w w' : World} {B n : Nat} {v : Value} {xs : List (List Value)} (h : SlAt w B n v xs) (hb : Below B w w') : SlAt w' B n v xs := by
  obtain ⟨h1, a, cap, h2, h3⟩ := h
  refine ⟨h1, a, cap, h2, fun hne => ?_⟩
  obtain ⟨bk, o, e, hlt, hc⟩ := h3 hne
  refine ⟨bk, o, e, hlt, fun i x hi j y hj => ?_⟩
  rw [hb.cell (p := ⟨bk, o + i * n + j, none⟩) hlt]
  exact hc i x hi j y hj

/-- an element -/
theorem SlAt.at {w : World} {B n : Nat} {a : Option Addr} {len cap : Nat} {xs : List (List Value)} (h : SlAt w B n (.slice a len cap) xs) {k : Nat} {x : List Value} (hk : xs[k]? = some x) :
    len = xs.length ∧ ∃ bk o, a = some ⟨bk, o, none⟩ ∧ bk < B ∧ ∀ j y, x[j]? = some y → w.cell? ⟨bk, o + k * n + j, none⟩ = some y := by
  obtain ⟨h1, a', cap', h2, h3⟩ := h
  cases h2
  obtain ⟨bk, o, e, hlt, hc⟩ := h3 (by intro e; rw [e] at hk; simp at hk)
  exact ⟨rfl, bk, o, e, hlt, fun j y hj => hc k x hk j y hj⟩

theorem SlAt.slice {w : World} {B n : Nat} {v : Value} {xs : List (List Value)} (h : SlAt w B n v xs) : ∃ a cap, v = .slice a xs.length cap := by
  obtain ⟨_, a, cap, h2, _⟩ := h
  exact ⟨a, cap, h2⟩

def okIns (x : InsL) : Prop := inI x.op ∧ inI x.a ∧ inI x.b ∧ inI x.c

/-- the line of the instruction at an index -/
def lineAt (l : List InsL) (k : Int) : List UInt8 := if k < 0 then [] else match l[k.toNat]? with | some x => lineL x | none => []

/-- an old cell beside a new block -/
theorem cell_old (w : World) (ob : Obj) {b : Nat} (hb : b < w.heap.size) (o : Nat) : (w.alloc ob).cell? ⟨b, o, none⟩ = w.cell? ⟨b, o, none⟩ :=
  ((Below.refl w.heap.size w).alloc (Nat.le_refl _) ob).cell (p := ⟨b, o, none⟩) hb

theorem lt_of_cell {w : World} {b o : Nat} {v : Value} (h : w.cell? ⟨b, o, none⟩ = some v) : b < w.heap.size := World.block_lt_of_cell? w _ h

def CellsAt (w : World) (bk o : Nat) : List Value → Prop
  | [] => True
  | v :: r => w.cell? ⟨bk, o, none⟩ = some v ∧ CellsAt w bk (o + 1) r

def codeV (s : ByteArray) (k l r : Int) (vi vp vk vg : Value) : Value := .agg #[.string s, .int .i64 k, .int .i64 l, .int .i64 r, vi, vp, vk, vg]

set_option maxHeartbeats 1000000 in
theorem Line_in (s : ByteArray) (kd0 le re : Int) (bk o len cap k : Nat) (vp vk vg : Value) (op a b c : Int) (_i0 : inI op) (i1 : inI a) (i2 : inI b) (i3 : inI c) (hk : k < len)
    (w : World) (hG : G w) (hc0 : w.cell? ⟨bk, o + k * 4, none⟩ = some (.int .i64 op)) (hc1 : w.cell? ⟨bk, o + k * 4 + 1, none⟩ = some (.int .i64 a)) (hc2 : w.cell? ⟨bk, o + k * 4 + 2, none⟩ = some (.int .i64 b)) (hc3 : w.cell? ⟨bk, o + k * 4 + 3, none⟩ = some (.int .i64 c)) :
    Calls Tryz.prog 8 #[.agg #[.string s, .int .i64 kd0, .int .i64 le, .int .i64 re, .slice (some ⟨bk, o, none⟩) len cap, vp, vk, vg], .int .i64 k] w fun e w' => e = .returned (.string (bs (lineL ⟨op, a, b, c⟩))) ∧ Below w.heap.size w w' := by
  have hlt := lt_of_cell hc0
  have cA := fun ob => cell_old w ob hlt
  have hb0 : ∀ ob, Below w.heap.size w (w.alloc ob) := fun ob => (Below.refl _ _).alloc (Nat.le_refl _) ob
  have hG0 : ∀ ob, G (w.alloc ob) := fun ob => hG.below (hb0 ob) hG.size
  have hk0 : (0 : Int) ≤ (k : Int) := Int.natCast_nonneg _
  have hk1 : decide ((k : Int) < 0) = false := by simp
  have hk2 : decide (len ≤ k) = false := by simp; omega
  by_cases h : op < 0 ∨ 55 ≤ op
  · have hL : lineL ⟨op, a, b, c⟩ = [] := by unfold lineL; rw [if_pos h]
    rw [hL]
    clear hL
    go_enter Tryz.func8, Tryz.ntmps8
    go_wp2_with (go_at_call 18; refine (line_out op a b c h _).mono ?_; rintro e w1 ⟨rfl, hb1⟩)
    go_ret
    exact ⟨rfl, (hb0 _).trans (hb1.mono (hb0 _).size)⟩
  · go_enter Tryz.func8, Tryz.ntmps8
    go_wp2_with (go_at_call 18; refine (line_ret op a b c (by omega) (by omega) i1 i2 i3 _ (hG0 _)).mono ?_; rintro e w1 ⟨rfl, hb1⟩)
    go_ret
    exact ⟨rfl, (hb0 _).trans (hb1.mono (hb0 _).size)⟩

theorem name_ne {op : Int} (h0 : 0 ≤ op) (h1 : op < 55) : (bs (nameL op)).toList.isEmpty = false := by
  obtain ⟨_, _, hne, _⟩ := row_good h0 h1
  rw [ByteArray.toList_eq, bs_data]
  cases h : nameL op with
  | nil => exact absurd h hne
  | cons => rfl

set_option maxHeartbeats 1000000 in
theorem rLine_in (s : ByteArray) (kd0 le re : Int) (bk o len cap k : Nat) (vp vk vg : Value) (op a b c : Int) (_i0 : inI op) (i1 : inI a) (i2 : inI b) (i3 : inI c) (hk : k < len)
    (w : World) (hc0 : w.cell? ⟨bk, o + k * 4, none⟩ = some (.int .i64 op)) (hc1 : w.cell? ⟨bk, o + k * 4 + 1, none⟩ = some (.int .i64 a)) (hc2 : w.cell? ⟨bk, o + k * 4 + 2, none⟩ = some (.int .i64 b)) (hc3 : w.cell? ⟨bk, o + k * 4 + 3, none⟩ = some (.int .i64 c)) :
    Calls Tryz.prog 9 #[.agg #[.string s, .int .i64 kd0, .int .i64 le, .int .i64 re, .slice (some ⟨bk, o, none⟩) len cap, vp, vk, vg], .int .i64 k] w fun e w' => e = .returned (.string (bs (lineL ⟨op, a, b, c⟩))) ∧ Below w.heap.size w w' := by
  have hlt := lt_of_cell hc0
  have cA := fun ob => cell_old w ob hlt
  have hb0 : ∀ ob, Below w.heap.size w (w.alloc ob) := fun ob => (Below.refl _ _).alloc (Nat.le_refl _) ob
  have hk0 : (0 : Int) ≤ (k : Int) := Int.natCast_nonneg _
  have hk1 : decide ((k : Int) < 0) = false := by simp
  have hk2 : decide (len ≤ k) = false := by simp; omega
  by_cases h : op < 0 ∨ 55 ≤ op
  · have hL : lineL ⟨op, a, b, c⟩ = [] := by unfold lineL; rw [if_pos h]
    have hname : ∀ w, Calls Tryz.prog 23 #[.int .i64 op] w fun e w' => e = .returned (.string ⟨#[]⟩) ∧ Below w.heap.size w w' := rname_out op h
    rw [hL]
    clear hL
    go_enter Tryz.func9, Tryz.ntmps9
    go_wp2_with (go_at_call 23; refine (hname _).mono ?_; rintro e w1 ⟨rfl, hb1⟩)
    go_ret
    exact ⟨rfl, (hb0 _).trans (hb1.mono (hb0 _).size)⟩
  · have hne := name_ne (op := op) (by omega) (by omega)
    have hb2 := hb0 (Obj.cells #[.string s, .int .i64 kd0, .int .i64 le, .int .i64 re, .slice (some ⟨bk, o, none⟩) len cap, vp, vk, vg] 36)
    go_enter Tryz.func9, Tryz.ntmps9
    go_wp2_with (first
      | (go_at_call 23; refine (rname_ret op _).mono ?_; rintro e w1 ⟨rfl, hb1⟩; obtain ⟨hcc, hff⟩ := bcell hb1; have hlt1 : bk < w.heap.size + 1 := by omega)
      | (go_at_call 24; refine (rins_ret op a b c (by omega) (by omega) i1 i2 i3 _).mono ?_; rintro e w3 ⟨rfl, hb3⟩))
    go_ret
    exact ⟨rfl, (hb2.trans (hb1.mono hb2.size)).trans (hb3.mono (Nat.le_trans hb2.size hb1.size))⟩

theorem lineAt_out {l : List InsL} {k : Int} (h : k < 0 ∨ (l.length : Int) ≤ k) : lineAt l k = [] := by
  unfold lineAt
  split
  · rfl
  · rw [List.getElem?_eq_none (by omega)]

set_option maxHeartbeats 1000000 in
theorem Line_out (s : ByteArray) (kd0 le re : Int) (a : Option Addr) (len cap : Nat) (k : Int) (vp vk vg : Value) (hk : k < 0 ∨ (len : Int) ≤ k) (w : World) :
    Calls Tryz.prog 8 #[.agg #[.string s, .int .i64 kd0, .int .i64 le, .int .i64 re, .slice a len cap, vp, vk, vg], .int .i64 k] w fun e w' => e = .returned (.string (bs [])) ∧ Below w.heap.size w w' := by
  have hb0 : ∀ ob, Below w.heap.size w (w.alloc ob) := fun ob => (Below.refl _ _).alloc (Nat.le_refl _) ob
  by_cases h : k < 0
  · clear hk
    go_enter Tryz.func8, Tryz.ntmps8
    go_wp2
    go_ret
    exact ⟨rfl, hb0 _⟩
  · have h' : decide (k < 0) = false := by simpa using h
    have h2 : (len : Int) ≤ k := by omega
    clear hk
    go_enter Tryz.func8, Tryz.ntmps8
    go_wp2
    go_ret
    exact ⟨rfl, hb0 _⟩

set_option maxHeartbeats 1000000 in
theorem rLine_out (s : ByteArray) (kd0 le re : Int) (a : Option Addr) (len cap : Nat) (k : Int) (vp vk vg : Value) (hk : k < 0 ∨ (len : Int) ≤ k) (w : World) :
    Calls Tryz.prog 9 #[.agg #[.string s, .int .i64 kd0, .int .i64 le, .int .i64 re, .slice a len cap, vp, vk, vg], .int .i64 k] w fun e w' => e = .returned (.string (bs [])) ∧ Below w.heap.size w w' := by
  have hb0 : ∀ ob, Below w.heap.size w (w.alloc ob) := fun ob => (Below.refl _ _).alloc (Nat.le_refl _) ob
  by_cases h : k < 0
  · clear hk
    go_enter Tryz.func9, Tryz.ntmps9
    go_wp2
    go_ret
    exact ⟨rfl, hb0 _⟩
  · have h' : decide (k < 0) = false := by simpa using h
    have h2 : (len : Int) ≤ k := by omega
    clear hk
    go_enter Tryz.func9, Tryz.ntmps9
    go_wp2
    go_ret
    exact ⟨rfl, hb0 _⟩

/-- both Lines, at any index -/
theorem Line_both (f : Nat) (hf : f = 8 ∨ f = 9) (s : ByteArray) (kd0 le re : Int) (l : List InsL) (hl : ∀ x ∈ l, okIns x) (B : Nat) (vi vp vk vg : Value) (k : Int) (w : World) (hG : G w) (hv : SlAt w B 4 vi (l.map insC)) :
    Calls Tryz.prog f #[.agg #[.string s, .int .i64 kd0, .int .i64 le, .int .i64 re, vi, vp, vk, vg], .int .i64 k] w fun e w' => e = .returned (.string (bs (lineAt l k))) ∧ Below w.heap.size w w' := by
  obtain ⟨a, cap, rfl⟩ := hv.slice
  by_cases h : k < 0 ∨ (l.length : Int) ≤ k
  · rw [lineAt_out h]
    have h' : k < 0 ∨ ((l.map insC).length : Int) ≤ k := by rw [List.length_map]; exact h
    rcases hf with rfl | rfl
    · exact Line_out s kd0 le re a _ cap k vp vk vg h' w
    · exact rLine_out s kd0 le re a _ cap k vp vk vg h' w
  · have hk : k.toNat < l.length := by omega
    have hx := List.getElem?_eq_getElem hk
    obtain ⟨_, bk, o, rfl, _, hc⟩ := hv.at (k := k.toNat) (x := insC l[k.toNat]) (by rw [List.getElem?_map, hx]; rfl)
    have e : lineAt l k = lineL l[k.toNat] := by
      unfold lineAt
      rw [if_neg (by omega), hx]
    obtain ⟨i0, i1, i2, i3⟩ := hl _ (List.getElem_mem hk)
    have ek : k = (k.toNat : Int) := by omega
    rw [e]
    generalize l[k.toNat] = x at *
    generalize k.toNat = m at *
    subst ek
    rcases hf with rfl | rfl
    · exact Line_in s kd0 le re bk o _ cap m vp vk vg x.op x.a x.b x.c i0 i1 i2 i3 (by rw [List.length_map]; omega) w hG (hc 0 _ rfl) (hc 1 _ rfl) (hc 2 _ rfl) (hc 3 _ rfl)
    · exact rLine_in s kd0 le re bk o _ cap m vp vk vg x.op x.a x.b x.c i0 i1 i2 i3 (by rw [List.length_map]; omega) w (hc 0 _ rfl) (hc 1 _ rfl) (hc 2 _ rfl) (hc 3 _ rfl)

end Go.Proofs.YtnkidmnddkmilaaGreatDoor
