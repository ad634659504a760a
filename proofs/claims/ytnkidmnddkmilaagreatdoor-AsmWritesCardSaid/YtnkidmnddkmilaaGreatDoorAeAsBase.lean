/-
  What the walks of package asm share: strings as lists of bytes, the package variables that are read, decimal forms.
-/
import Derived.Shelf.RegionOpenPlain
import Derived.Lib.Strings
import Derived.Lib.Slices
import Derived.Lib.Walk
import Derived.Lib.Hide
import Derived.Lib.ItoaLen
import Derived.Lib.ItoaMem
import Derived.Lib.AppendIntMem
import Derived.WalkKit
import Derived.WalkSpells
import Derived.WalkSmall
import Derived.LoopTactic
import Derived.IntWalk
import Derived.Deep.QuietTactic
import Derived.BigQuiet
import Derived.Deep.RegionHeld3
import Derived.Test.YtnkidmnddkmilaaGreatDoorAeAsShelf
namespace Go.Proofs.YtnkidmnddkmilaaGreatDoor
open Go.RowKit
set_option maxRecDepth 100000

/-- bytes as a string -/
def bs (l : List UInt8) : ByteArray := ⟨l.toArray⟩

theorem bs_append (a b : List UInt8) : bs a ++ bs b = bs (a ++ b) := by
  apply ByteArray.ext
  simp [bs]

theorem bs_size (l : List UInt8) : (bs l).size = l.length := by simp [bs, ByteArray.size]
theorem bs_data (l : List UInt8) : (bs l).data.toList = l := by simp [bs]
theorem bs_of (s : ByteArray) : bs s.data.toList = s := by
  apply ByteArray.ext
  simp [bs]

theorem ret_str {a b : ByteArray} (h : a = b) : Ending.returned (.string a) = .returned (.string b) := by rw [h]
theorem ret_bool {a b : Bool} (h : a = b) : Ending.returned (.bool a) = .returned (.bool b) := by rw [h]
theorem ret_int {k : IntKind} {a b : Int} (h : a = b) : Ending.returned (.int k a) = .returned (.int k b) := by rw [h]

/-- an int -/
def inI (n : Int) : Prop := -9223372036854775808 ≤ n ∧ n ≤ 9223372036854775807

def powCells : Array Value := (Lib.pow10Tab.map fun z => Value.int .u64 z).toArray
def kindCells : Array Value := #[.string ⟨#[]⟩, .string ⟨#[60]⟩, .string ⟨#[62]⟩, .string ⟨#[63]⟩]

/-- what the package variables hold -/
structure G (w : World) : Prop where
  size : 7 ≤ w.heap.size
  tab : ∃ ty fr, w.heap[2]? = some (.cells powCells ty fr)
  kinds : ∃ ty fr, w.heap[0]? = some (.cells kindCells ty fr)

theorem G.below {B : Nat} {w w' : World} (h : G w) (hb : Below B w w') (hB : 7 ≤ B) : G w' := by
  refine ⟨Nat.le_trans h.size hb.size, ?_, ?_⟩
  · obtain ⟨ty, fr, e⟩ := h.tab
    exact ⟨ty, fr, by rw [hb.block 2 (by omega)]; exact e⟩
  · obtain ⟨ty, fr, e⟩ := h.kinds
    exact ⟨ty, fr, by rw [hb.block 0 (by omega)]; exact e⟩

theorem G.tabIs {w : World} (h : G w) : Lib.TabIs Tryz.prog w "internal/strconv.uint64pow10" .u64 Lib.pow10Tab := by
  obtain ⟨ty, fr, e⟩ := h.tab
  have hn : Tryz.prog.globalNamed "internal/strconv.uint64pow10" = some 2 := by kernel_rfl
  show w.var? Tryz.prog _ = _
  unfold World.var?
  rw [hn]
  simp only [Option.bind_some]
  rw [e]
  rfl

theorem itoa_size (n : Int) (hn : inI n) : (bs (Lib.itoa n)).size ≤ 21 := by
  rw [bs_size]
  exact Lib.itoa_length_le n hn.1 hn.2

theorem itoa_ret (n : Int) (hn : inI n) (w : World) (hG : G w) : Calls Tryz.prog 41 #[.int .i64 n] w fun e w' => e = .returned (.string (bs (Lib.itoa n))) ∧ (bs (Lib.itoa n)).size ≤ 21 ∧ Below w.heap.size w w' := by
  refine (strconv_Itoa n hn.1 hn.2 w hG.tabIs).mono fun e w' he => ?_
  obtain ⟨rfl, k, os, rfl⟩ := he
  exact ⟨rfl, itoa_size n hn, Lib.below_grow _ w (Nat.le_refl _) k os⟩

theorem bcell {W w1 : World} (hb : Below W.heap.size W w1) : (∀ b o, b < W.heap.size → w1.cell? ⟨b, o, none⟩ = W.cell? ⟨b, o, none⟩) ∧ (∀ b o, b < W.heap.size → w1.frozen? ⟨b, o, none⟩ = W.frozen? ⟨b, o, none⟩) :=
  ⟨fun b o h => hb.cell (p := ⟨b, o, none⟩) h, fun b o h => hb.frozen (p := ⟨b, o, none⟩) h⟩

theorem below_drewN {B : Nat} {a w : World} (h : Below B a w) (n : Nat) : Below B a (w.drewN n) := ⟨h.os, h.tape, h.output, h.size, h.block⟩

/-- behind a call that makes memory -/
theorem keepS {N b : Nat} {w0 w w1 : World} (hG : G w) (hB : Below N w0 w) (hl : b < w.heap.size) (hN : N ≤ b) (h : Below w.heap.size w w1) : G w1 ∧ Below N w0 w1 ∧ b < w1.heap.size ∧ ∀ o, w1.cell? ⟨b, o, none⟩ = w.cell? ⟨b, o, none⟩ :=
  ⟨hG.below h hG.size, hB.trans (h.mono (by omega)), Nat.lt_of_lt_of_le hl h.size, fun o => h.cell (p := ⟨b, o, none⟩) hl⟩

theorem keepB {N : Nat} {w0 w w1 : World} (hB : Below N w0 w) (hl : N < w.heap.size) (h : Below w.heap.size w w1) : Below N w0 w1 ∧ N < w1.heap.size ∧ ∀ o, w1.cell? ⟨N, o, none⟩ = w.cell? ⟨N, o, none⟩ :=
  ⟨hB.trans (h.mono (by omega)), Nat.lt_of_lt_of_le hl h.size, fun o => h.cell (p := ⟨N, o, none⟩) hl⟩

/-- behind the first block of its own -/
theorem startS {w : World} (hG : G w) (ob : Obj) : G (w.alloc ob).drew ∧ Below w.heap.size w (w.alloc ob).drew ∧ w.heap.size < (w.alloc ob).drew.heap.size := by
  have hb : Below w.heap.size w (w.alloc ob).drew := Below.drew ((Below.refl _ _).alloc (Nat.le_refl _) _)
  exact ⟨hG.below hb hG.size, hb, by simp⟩

end Go.Proofs.YtnkidmnddkmilaaGreatDoor
