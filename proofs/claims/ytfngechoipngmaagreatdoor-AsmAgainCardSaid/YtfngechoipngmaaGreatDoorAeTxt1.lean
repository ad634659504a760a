/-
  The library's contracts at this program (laid in plain words by the kit's tool): strings.Builder.String, strings.Join, strconv.Itoa, FormatBool.
  What the walks of package asm share: strings as lists of bytes, the package variables that are read, decimal forms.
  String functions at this program (laid in plain words by the kit's tools).
  The reference's decimal forms are strconv's.
  Numbers of a text.
  append of one struct: where the new row lies.
  The next word of a line.
  Quoted texts as they are read: what the parser answers, as far as it matters.
-/
import Derived.Shelf.Strings.Builder1
import Derived.Shelf.Strings.Builder2
import Derived.Shelf.Strings.OnBuilder
import Derived.Shelf.Small.Wraps
import Derived.Shelf.Strconv.Itoa0
import Derived.Shelf.Strconv.Itoa1
import Derived.Shelf.LaysM
import Derived.Shelf.Strconv.Itoa2
import Derived.Shelf.Strconv.Itoa3
import Derived.Test.YtfngechoipngmaaGreatDoorProg
import Derived.Shelf.RegionOpenPlain
import Derived.Lib.Strings
import Derived.Lib.Slices
import Derived.Lib.Walk
import Derived.Lib.Hide
import Derived.Lib.ItoaLen
import Derived.Lib.ItoaMem
import Derived.Lib.AppendIntMem
import Derived.WalkKit
import Derived.WalkSpells
import Derived.WalkSmall
import Derived.LoopTactic
import Derived.IntWalk
import Derived.Deep.QuietTactic
import Derived.BigQuiet
import Derived.Deep.RegionHeld3
import Derived.Shelf.LaysC
import Derived.Shelf.Strconv.AtoiAll
import Derived.Shelf.Strings.Search1
import Derived.Shelf.Strings.Search2
import Derived.Shelf.Strings.Cut
import Derived.Shelf.Strings.Prefix
import Derived.Below
import Derived.Laws.BytesString
import Derived.Laws.BytesArg
import Derived.Lib.AtoiAllCases
import Derived.Laws.AppendOwn
import Derived.Laws.Cover4
import Derived.Laws.Closers25b
import Derived.OwnWalk
namespace Go.Proofs.YtfngechoipngmaaGreatDoor
open Go.Shelf
set_option maxRecDepth 100000
def lays169_ren : Go.Shelf.Ren := ⟨fun | 169 => 21 | n => n, fun | 70 => 48 | 9 => 9 | 0 => 0 | 72 => 51 | 37 => 49 | 127 => 91 | 3 => 3 | 5 => 5 | n => n, fun | n => n⟩
theorem lays169 : Go.Proofs.Lays.n169 Tryz.prog lays169_ren := {
  mixed := by kernel_rfl
  f169 := Tryz.func21.trans (congrArg some (by kernel_rfl))
  t0 := Tryz.underlying0
  a0 := Tryz.isAgg0
  z0 := Tryz.sizeOf0
  v0 := Tryz.zeroValue0
  t3 := Tryz.underlying3
  a3 := Tryz.isAgg3
  z3 := Tryz.sizeOf3
  v3 := Tryz.zeroValue3
  t9 := Tryz.underlying9
  a9 := Tryz.isAgg9
  z9 := Tryz.sizeOf9
  v9 := Tryz.zeroValue9
  t37 := Tryz.underlying49
  a37 := Tryz.isAgg49
  z37 := Tryz.sizeOf49
  v37 := Tryz.zeroValue49
  t70 := Tryz.underlying48
  a70 := Tryz.isAgg48
  z70 := Tryz.sizeOf48
  v70 := Tryz.zeroValue48
  t72 := Tryz.underlying51
  a72 := Tryz.isAgg51
  z72 := Tryz.sizeOf51
  v72 := Tryz.zeroValue51
  t127 := Tryz.underlying91
  a127 := Tryz.isAgg91
  z127 := Tryz.sizeOf91
  v127 := Tryz.zeroValue91 }
theorem Builder_Extra_169 : Builder.Extra Tryz.prog lays169_ren := {
  sizeBuilder := by kernel_rfl
  liesBuilder := by kernel_rfl
  t5 := Tryz.underlying5
  a5 := Tryz.isAgg5
  z5 := Tryz.sizeOf5
  v5 := Tryz.zeroValue5
  infoByte := by kernel_rfl
  cellsByte := by kernel_rfl
  sizeByte := by kernel_rfl
  neB5 := by decide }
open Go.RowKit in
/-- (*strings.Builder).String: "String returns the accumulated string.": WHATEVER THE BUILDER HOLDS. (LAID: no walk: one application.) -/
theorem Builder_String_any (B b : Nat) (l : List UInt8) (w : World) (h : Lib.IsBuilder 51 5 B b (Lib.byteCells l) w) (hBw : B ≤ w.heap.size) :
    Calls Tryz.prog 21 #[.pointer (some ⟨b, 0, none⟩)] w fun e w' => e = .returned (.string ⟨l.toArray⟩) ∧ Below B w w' := Any.Builder_String_any lays169 Builder_Extra_169 B b l w h hBw
def lays156_ren : Go.Shelf.Ren := ⟨fun | 156 => 47 | 167 => 73 | 165 => 79 | 166 => 14 | 169 => 21 | 240 => 29 | 241 => 98 | 276 => 62 | 277 => 113 | n => n, fun | 31 => 87 | 9 => 9 | 3 => 3 | 4 => 4 | 0 => 0 | 20 => 20 | 72 => 51 | 76 => 54 | 70 => 48 | 37 => 49 | 75 => 53 | 127 => 91 | 164 => 96 | 5 => 5 | 80 => 65 | n => n, fun | n => n⟩
theorem lays156 : Go.Proofs.Lays.n156 Tryz.prog lays156_ren := {
  mixed := by kernel_rfl
  f156 := Tryz.func47.trans (congrArg some (by kernel_rfl))
  f165 := Tryz.func79.trans (congrArg some (by kernel_rfl))
  f166 := Tryz.func14.trans (congrArg some (by kernel_rfl))
  f169 := Tryz.func21.trans (congrArg some (by kernel_rfl))
  f240 := Tryz.func29.trans (congrArg some (by kernel_rfl))
  f241 := Tryz.func98.trans (congrArg some (by kernel_rfl))
  f276 := Tryz.func62.trans (congrArg some (by kernel_rfl))
  f277 := Tryz.func113.trans (congrArg some (by kernel_rfl))
  t0 := Tryz.underlying0
  a0 := Tryz.isAgg0
  z0 := Tryz.sizeOf0
  v0 := Tryz.zeroValue0
  t3 := Tryz.underlying3
  a3 := Tryz.isAgg3
  z3 := Tryz.sizeOf3
  v3 := Tryz.zeroValue3
  t4 := Tryz.underlying4
  a4 := Tryz.isAgg4
  z4 := Tryz.sizeOf4
  v4 := Tryz.zeroValue4
  t9 := Tryz.underlying9
  a9 := Tryz.isAgg9
  z9 := Tryz.sizeOf9
  v9 := Tryz.zeroValue9
  t20 := Tryz.underlying20
  a20 := Tryz.isAgg20
  z20 := Tryz.sizeOf20
  v20 := Tryz.zeroValue20
  t31 := Tryz.underlying87
  a31 := Tryz.isAgg87
  z31 := Tryz.sizeOf87
  v31 := Tryz.zeroValue87
  t37 := Tryz.underlying49
  a37 := Tryz.isAgg49
  z37 := Tryz.sizeOf49
  v37 := Tryz.zeroValue49
  t70 := Tryz.underlying48
  a70 := Tryz.isAgg48
  z70 := Tryz.sizeOf48
  v70 := Tryz.zeroValue48
  t72 := Tryz.underlying51
  a72 := Tryz.isAgg51
  z72 := Tryz.sizeOf51
  v72 := Tryz.zeroValue51
  t75 := Tryz.underlying53
  a75 := Tryz.isAgg53
  z75 := Tryz.sizeOf53
  v75 := Tryz.zeroValue53
  t76 := Tryz.underlying54
  a76 := Tryz.isAgg54
  z76 := Tryz.sizeOf54
  v76 := Tryz.zeroValue54
  t127 := Tryz.underlying91
  a127 := Tryz.isAgg91
  z127 := Tryz.sizeOf91
  v127 := Tryz.zeroValue91
  t164 := Tryz.underlying96
  a164 := Tryz.isAgg96
  z164 := Tryz.sizeOf96
  v164 := Tryz.zeroValue96 }
theorem Builder_Extra_156 : Builder.Extra Tryz.prog lays156_ren := {
  sizeBuilder := by kernel_rfl
  liesBuilder := by kernel_rfl
  t5 := Tryz.underlying5
  a5 := Tryz.isAgg5
  z5 := Tryz.sizeOf5
  v5 := Tryz.zeroValue5
  infoByte := by kernel_rfl
  cellsByte := by kernel_rfl
  sizeByte := by kernel_rfl
  neB5 := by decide }
open Go.RowKit in
/-- strings.Join: "Join concatenates the elements of its first argument to create a single string. The separator string sep is placed between elements in the resulting string.": HOWEVER MANY ELEMENTS. Below the heap's end the world is as it was. (LAID: no walk: one application.) -/
theorem strings_Join (bk o c : Nat) (xs : List ByteArray) (sep : ByteArray) (w : World) (hcells : ∀ (j : Nat) x, xs[j]? = some x → w.cell? ⟨bk, o + j, none⟩ = some (.string x)) (hbk : bk < w.heap.size) (hN : xs.length ≤ 140737488355328) (hcap : xs.length ≤ c) (hlen : (Lib.join (xs.map (·.data.toList)) sep.data.toList).length ≤ 140737488355328) :
    Calls Tryz.prog 47 #[.slice (some ⟨bk, o, none⟩) xs.length c, .string sep] w fun e w' => e = .returned (.string ⟨(Lib.join (xs.map (·.data.toList)) sep.data.toList).toArray⟩) ∧ Below w.heap.size w w' := Any.strings_Join lays156 Builder_Extra_156 bk o c xs sep w hcells hbk hN hcap hlen
open Go.RowKit in
theorem Builder_WriteString (B b : Nat) (bs : List Value) (s : ByteArray) (w : World) (h : Lib.IsBuilder 51 5 B b bs w) (hlen : bs.length + s.size ≤ 140737488355328) (hBw : B ≤ w.heap.size) :
    Calls Tryz.prog 14 #[.pointer (some ⟨b, 0, none⟩), .string s] w fun e w' => e = .returned (.tuple #[.int .i64 s.size, .nilIface]) ∧ (Lib.BuilderAt 51 5 B b (.pointer (some ⟨b, 0, none⟩)) (bs ++ Lib.strCells s) w' ∧ Below B w w') :=
  Any.Builder_WriteString (ρ := lays156_ren) { lays156 with } Builder_Extra_156 B b bs s w h hlen hBw
open Go.RowKit in
theorem Builder_WriteByte (B b : Nat) (bs : List Value) (c : Int) (w : World) (h : Lib.IsBuilder 51 5 B b bs w) (hlen : bs.length + 1 ≤ 140737488355328) (hBw : B ≤ w.heap.size) :
    Calls Tryz.prog 73 #[.pointer (some ⟨b, 0, none⟩), .int .u8 c] w fun e w' => e = .returned .nilIface ∧ (Lib.BuilderAt 51 5 B b (.pointer (some ⟨b, 0, none⟩)) (bs ++ [.int .u8 c]) w' ∧ Below B w w') :=
  Any.Builder_WriteByte (ρ := lays156_ren) { lays156 with f167 := Tryz.func73.trans (congrArg some (by kernel_rfl)), t5 := Tryz.underlying5, a5 := Tryz.isAgg5, z5 := Tryz.sizeOf5, v5 := Tryz.zeroValue5 } Builder_Extra_156 B b bs c w h hlen hBw
def lays121_ren : Go.Shelf.Ren := ⟨fun | 121 => 43 | 214 => 76 | n => n, fun | 4 => 4 | 9 => 9 | n => n, fun | n => n⟩
theorem lays121 : Go.Proofs.Lays.n121 Tryz.prog lays121_ren := {
  mixed := by kernel_rfl
  f121 := Tryz.func43.trans (congrArg some (by kernel_rfl))
  f214 := Tryz.func76.trans (congrArg some (by kernel_rfl))
  t4 := Tryz.underlying4
  a4 := Tryz.isAgg4
  z4 := Tryz.sizeOf4
  v4 := Tryz.zeroValue4
  t9 := Tryz.underlying9
  a9 := Tryz.isAgg9
  z9 := Tryz.sizeOf9
  v9 := Tryz.zeroValue9 }
open Go.RowKit in
/-- strconv.FormatBool: "FormatBool returns "true" or "false" according to the value of b.": IT RETURNS 'Lib.formatBool b'; the world is as it was. (LAID: no walk: one application.) -/
theorem strconv_FormatBool (b : Bool) (w : World) :
    Calls Tryz.prog 43 #[.bool b] w fun e w' => e = .returned (.string ⟨(Lib.formatBool b).toArray⟩) ∧ w' = w := Any.strconv_FormatBool lays121 b w
def laysM171_ren : Go.Shelf.Ren := ⟨fun | 171 => 42 | 243 => 75 | 246 => 96 | 283 => 109 | 284 => 110 | 285 => 111 | 286 => 112 | 129 => 124 | 317 => 123 | 318 => 125 | 319 => 126 | 320 => 127 | 337 => 134 | 338 => 135 | n => n, fun | 3 => 3 | 9 => 9 | 2 => 2 | 4 => 4 | 171 => 143 | 0 => 0 | 53 => 134 | 37 => 49 | 5 => 5 | 173 => 146 | 212 => 158 | 51 => 150 | 20 => 20 | 213 => 159 | 46 => 40 | 232 => 172 | 233 => 173 | n => n, fun | 17 => 2 | 18 => 3 | 19 => 4 | n => n⟩
theorem laysM171 : Go.Proofs.LaysM.n171 Tryz.prog laysM171_ren := {
  mixed := by kernel_rfl
  f129 := Tryz.func124.trans (congrArg some (by kernel_rfl))
  f171 := Tryz.func42.trans (congrArg some (by kernel_rfl))
  f243 := Tryz.func75.trans (congrArg some (by kernel_rfl))
  f246 := Tryz.func96.trans (congrArg some (by kernel_rfl))
  f283 := Tryz.func109.trans (congrArg some (by kernel_rfl))
  f284 := Tryz.func110.trans (congrArg some (by kernel_rfl))
  f285 := Tryz.func111.trans (congrArg some (by kernel_rfl))
  f286 := Tryz.func112.trans (congrArg some (by kernel_rfl))
  f317 := Tryz.func123.trans (congrArg some (by kernel_rfl))
  f318 := Tryz.func125.trans (congrArg some (by kernel_rfl))
  f319 := Tryz.func126.trans (congrArg some (by kernel_rfl))
  f320 := Tryz.func127.trans (congrArg some (by kernel_rfl))
  f337 := Tryz.func134.trans (congrArg some (by kernel_rfl))
  f338 := Tryz.func135.trans (congrArg some (by kernel_rfl))
  t0 := Tryz.underlying0
  a0 := Tryz.isAgg0
  z0 := Tryz.sizeOf0
  v0 := Tryz.zeroValue0
  t2 := Tryz.underlying2
  a2 := Tryz.isAgg2
  z2 := Tryz.sizeOf2
  v2 := Tryz.zeroValue2
  t3 := Tryz.underlying3
  a3 := Tryz.isAgg3
  z3 := Tryz.sizeOf3
  v3 := Tryz.zeroValue3
  t4 := Tryz.underlying4
  a4 := Tryz.isAgg4
  z4 := Tryz.sizeOf4
  v4 := Tryz.zeroValue4
  t5 := Tryz.underlying5
  a5 := Tryz.isAgg5
  z5 := Tryz.sizeOf5
  v5 := Tryz.zeroValue5
  t9 := Tryz.underlying9
  a9 := Tryz.isAgg9
  z9 := Tryz.sizeOf9
  v9 := Tryz.zeroValue9
  t20 := Tryz.underlying20
  a20 := Tryz.isAgg20
  z20 := Tryz.sizeOf20
  v20 := Tryz.zeroValue20
  t37 := Tryz.underlying49
  a37 := Tryz.isAgg49
  z37 := Tryz.sizeOf49
  v37 := Tryz.zeroValue49
  t46 := Tryz.underlying40
  a46 := Tryz.isAgg40
  z46 := Tryz.sizeOf40
  v46 := Tryz.zeroValue40
  t51 := Tryz.underlying150
  a51 := Tryz.isAgg150
  z51 := Tryz.sizeOf150
  v51 := Tryz.zeroValue150
  t53 := Tryz.underlying134
  a53 := Tryz.isAgg134
  z53 := Tryz.sizeOf134
  v53 := Tryz.zeroValue134
  t171 := Tryz.underlying143
  a171 := Tryz.isAgg143
  z171 := Tryz.sizeOf143
  v171 := Tryz.zeroValue143
  t173 := Tryz.underlying146
  a173 := Tryz.isAgg146
  z173 := Tryz.sizeOf146
  v173 := Tryz.zeroValue146
  t212 := Tryz.underlying158
  a212 := Tryz.isAgg158
  z212 := Tryz.sizeOf158
  v212 := Tryz.zeroValue158
  t213 := Tryz.underlying159
  a213 := Tryz.isAgg159
  z213 := Tryz.sizeOf159
  t232 := Tryz.underlying172
  a232 := Tryz.isAgg172
  z232 := Tryz.sizeOf172
  v232 := Tryz.zeroValue172
  t233 := Tryz.underlying173
  a233 := Tryz.isAgg173
  z233 := Tryz.sizeOf173
  v233 := Tryz.zeroValue173
  g17 := by kernel_rfl
  g18 := by kernel_rfl
  g19 := by kernel_rfl
  i0 := by kernel_rfl
  i2 := by kernel_rfl
  i3 := by kernel_rfl
  i4 := by kernel_rfl
  i5 := by kernel_rfl
  i9 := by kernel_rfl
  i20 := by kernel_rfl
  i37 := by kernel_rfl
  i46 := by kernel_rfl
  i51 := by kernel_rfl
  i53 := by kernel_rfl
  i171 := by kernel_rfl
  i173 := by kernel_rfl
  i212 := by kernel_rfl
  i232 := by kernel_rfl
  i233 := by kernel_rfl
  m17 := by kernel_rfl
  m18 := by kernel_rfl
  m19 := by kernel_rfl }
open Go.RowKit Go.Sort Go.Lib in
/-- strconv.Itoa: "Itoa is equivalent to FormatInt(int64(i), 10).": i's DECIMAL NUMERAL ('Lib.itoa': a '-' where i is negative, then the digits), FOR EVERY int. The world behind the call: the world before it, new blocks behind the heap (the library's 'var a [24]byte'), draws. (LAID: no walk: one application.) -/
theorem strconv_Itoa (n : Int) (h0 : -9223372036854775808 ≤ n) (h1 : n ≤ 9223372036854775807) (w : World) (htab : Lib.TabIs Tryz.prog w "internal/strconv.uint64pow10" .u64 Lib.pow10Tab) :
    Calls Tryz.prog 42 #[.int .i64 n] w fun e w' => e = .returned (.string ⟨(Lib.itoa n).toArray⟩) ∧ ∃ k os, w' = grow (w.drewN k) os := Any.strconv_Itoa laysM171 n h0 h1 w htab
end Go.Proofs.YtfngechoipngmaaGreatDoor

namespace Go.Proofs.YtfngechoipngmaaGreatDoor
open Go.RowKit
set_option maxRecDepth 100000

/-- bytes as a string -/
def bs (l : List UInt8) : ByteArray := ⟨l.toArray⟩

theorem bs_append (a b : List UInt8) : bs a ++ bs b = bs (a ++ b) := by
  apply ByteArray.ext
  simp [bs]

theorem bs_size (l : List UInt8) : (bs l).size = l.length := by simp [bs, ByteArray.size]
theorem bs_data (l : List UInt8) : (bs l).data.toList = l := by simp [bs]
theorem bs_of (s : ByteArray) : bs s.data.toList = s := by
  apply ByteArray.ext
  simp [bs]

theorem ret_str {a b : ByteArray} (h : a = b) : Ending.returned (.string a) = .returned (.string b) := by rw [h]
theorem ret_bool {a b : Bool} (h : a = b) : Ending.returned (.bool a) = .returned (.bool b) := by rw [h]
theorem ret_int {k : IntKind} {a b : Int} (h : a = b) : Ending.returned (.int k a) = .returned (.int k b) := by rw [h]

/-- an int -/
def inI (n : Int) : Prop := -9223372036854775808 ≤ n ∧ n ≤ 9223372036854775807

def powCells : Array Value := (Lib.pow10Tab.map fun z => Value.int .u64 z).toArray
def kindCells : Array Value := #[.string ⟨#[]⟩, .string ⟨#[60]⟩, .string ⟨#[62]⟩, .string ⟨#[63]⟩]

/-- what the package variables hold -/
structure G (w : World) : Prop where
  size : 7 ≤ w.heap.size
  tab : ∃ ty fr, w.heap[2]? = some (.cells powCells ty fr)
  kinds : ∃ ty fr, w.heap[0]? = some (.cells kindCells ty fr)

theorem G.below {B : Nat} {w w' : World} (h : G w) (hb : Below B w w') (hB : 7 ≤ B) : G w' := by
  refine ⟨Nat.le_trans h.size hb.size, ?_, ?_⟩
  · obtain ⟨ty, fr, e⟩ := h.tab
    exact ⟨ty, fr, by rw [hb.block 2 (by omega)]; exact e⟩
  · obtain ⟨ty, fr, e⟩ := h.kinds
    exact ⟨ty, fr, by rw [hb.block 0 (by omega)]; exact e⟩

theorem G.tabIs {w : World} (h : G w) : Lib.TabIs Tryz.prog w "internal/strconv.uint64pow10" .u64 Lib.pow10Tab := by
  obtain ⟨ty, fr, e⟩ := h.tab
  have hn : Tryz.prog.globalNamed "internal/strconv.uint64pow10" = some 2 := by kernel_rfl
  show w.var? Tryz.prog _ = _
  unfold World.var?
  rw [hn]
  simp only [Option.bind_some]
  rw [e]
  rfl

theorem itoa_size (n : Int) (hn : inI n) : (bs (Lib.itoa n)).size ≤ 21 := by
  rw [bs_size]
  exact Lib.itoa_length_le n hn.1 hn.2

theorem itoa_ret (n : Int) (hn : inI n) (w : World) (hG : G w) : Calls Tryz.prog 42 #[.int .i64 n] w fun e w' => e = .returned (.string (bs (Lib.itoa n))) ∧ (bs (Lib.itoa n)).size ≤ 21 ∧ Below w.heap.size w w' := by
  refine (strconv_Itoa n hn.1 hn.2 w hG.tabIs).mono fun e w' he => ?_
  obtain ⟨rfl, k, os, rfl⟩ := he
  exact ⟨rfl, itoa_size n hn, Lib.below_grow _ w (Nat.le_refl _) k os⟩

theorem bcell {W w1 : World} (hb : Below W.heap.size W w1) : (∀ b o, b < W.heap.size → w1.cell? ⟨b, o, none⟩ = W.cell? ⟨b, o, none⟩) ∧ (∀ b o, b < W.heap.size → w1.frozen? ⟨b, o, none⟩ = W.frozen? ⟨b, o, none⟩) :=
  ⟨fun b o h => hb.cell (p := ⟨b, o, none⟩) h, fun b o h => hb.frozen (p := ⟨b, o, none⟩) h⟩

theorem below_drewN {B : Nat} {a w : World} (h : Below B a w) (n : Nat) : Below B a (w.drewN n) := ⟨h.os, h.tape, h.output, h.size, h.block⟩

/-- behind a call that makes memory -/
theorem keepS {N b : Nat} {w0 w w1 : World} (hG : G w) (hB : Below N w0 w) (hl : b < w.heap.size) (hN : N ≤ b) (h : Below w.heap.size w w1) : G w1 ∧ Below N w0 w1 ∧ b < w1.heap.size ∧ ∀ o, w1.cell? ⟨b, o, none⟩ = w.cell? ⟨b, o, none⟩ :=
  ⟨hG.below h hG.size, hB.trans (h.mono (by omega)), Nat.lt_of_lt_of_le hl h.size, fun o => h.cell (p := ⟨b, o, none⟩) hl⟩

theorem keepB {N : Nat} {w0 w w1 : World} (hB : Below N w0 w) (hl : N < w.heap.size) (h : Below w.heap.size w w1) : Below N w0 w1 ∧ N < w1.heap.size ∧ ∀ o, w1.cell? ⟨N, o, none⟩ = w.cell? ⟨N, o, none⟩ :=
  ⟨hB.trans (h.mono (by omega)), Nat.lt_of_lt_of_le hl h.size, fun o => h.cell (p := ⟨N, o, none⟩) hl⟩

/-- behind the first block of its own -/
theorem startS {w : World} (hG : G w) (ob : Obj) : G (w.alloc ob).drew ∧ Below w.heap.size w (w.alloc ob).drew ∧ w.heap.size < (w.alloc ob).drew.heap.size := by
  have hb : Below w.heap.size w (w.alloc ob).drew := Below.drew ((Below.refl _ _).alloc (Nat.le_refl _) _)
  exact ⟨hG.below hb hG.size, hb, by simp⟩

end Go.Proofs.YtfngechoipngmaaGreatDoor

namespace Go.Proofs.YtfngechoipngmaaGreatDoor
open Go.Shelf
set_option maxRecDepth 100000
def ag_lays101_ren : Go.Shelf.Ren := ⟨fun | 101 => 121 | 208 => 133 | 206 => 122 | n => n, fun | 9 => 9 | 4 => 4 | 3 => 3 | n => n, fun | n => n⟩
theorem ag_lays101 : Go.Proofs.Lays.n101 Tryz.prog ag_lays101_ren := {
  mixed := by kernel_rfl
  f101 := Tryz.func121.trans (congrArg some (by kernel_rfl))
  f206 := Tryz.func122.trans (congrArg some (by kernel_rfl))
  f208 := Tryz.func133.trans (congrArg some (by kernel_rfl))
  t3 := Tryz.underlying3
  a3 := Tryz.isAgg3
  z3 := Tryz.sizeOf3
  v3 := Tryz.zeroValue3
  t4 := Tryz.underlying4
  a4 := Tryz.isAgg4
  z4 := Tryz.sizeOf4
  v4 := Tryz.zeroValue4
  t9 := Tryz.underlying9
  a9 := Tryz.isAgg9
  z9 := Tryz.sizeOf9
  v9 := Tryz.zeroValue9 }
def ag_lays103_ren : Go.Shelf.Ren := ⟨fun | 103 => 118 | 210 => 129 | 206 => 122 | n => n, fun | 9 => 9 | 4 => 4 | 24 => 116 | 3 => 3 | n => n, fun | n => n⟩
theorem ag_lays103 : Go.Proofs.Lays.n103 Tryz.prog ag_lays103_ren := {
  mixed := by kernel_rfl
  f103 := Tryz.func118.trans (congrArg some (by kernel_rfl))
  f206 := Tryz.func122.trans (congrArg some (by kernel_rfl))
  f210 := Tryz.func129.trans (congrArg some (by kernel_rfl))
  t3 := Tryz.underlying3
  a3 := Tryz.isAgg3
  z3 := Tryz.sizeOf3
  v3 := Tryz.zeroValue3
  t4 := Tryz.underlying4
  a4 := Tryz.isAgg4
  z4 := Tryz.sizeOf4
  v4 := Tryz.zeroValue4
  t9 := Tryz.underlying9
  a9 := Tryz.isAgg9
  z9 := Tryz.sizeOf9
  v9 := Tryz.zeroValue9
  t24 := Tryz.underlying116
  a24 := Tryz.isAgg116
  z24 := Tryz.sizeOf116
  v24 := Tryz.zeroValue116 }
def ag_lays104_ren : Go.Shelf.Ren := ⟨fun | 104 => 119 | 211 => 130 | 207 => 137 | n => n, fun | 9 => 9 | 4 => 4 | 24 => 116 | 3 => 3 | n => n, fun | n => n⟩
theorem ag_lays104 : Go.Proofs.Lays.n104 Tryz.prog ag_lays104_ren := {
  mixed := by kernel_rfl
  f104 := Tryz.func119.trans (congrArg some (by kernel_rfl))
  f207 := Tryz.func137.trans (congrArg some (by kernel_rfl))
  f211 := Tryz.func130.trans (congrArg some (by kernel_rfl))
  t3 := Tryz.underlying3
  a3 := Tryz.isAgg3
  z3 := Tryz.sizeOf3
  v3 := Tryz.zeroValue3
  t4 := Tryz.underlying4
  a4 := Tryz.isAgg4
  z4 := Tryz.sizeOf4
  v4 := Tryz.zeroValue4
  t9 := Tryz.underlying9
  a9 := Tryz.isAgg9
  z9 := Tryz.sizeOf9
  v9 := Tryz.zeroValue9
  t24 := Tryz.underlying116
  a24 := Tryz.isAgg116
  z24 := Tryz.sizeOf116
  v24 := Tryz.zeroValue116 }
def ag_lays219_ren : Go.Shelf.Ren := ⟨fun | 219 => 85 | 217 => 101 | 225 => 102 | 224 => 103 | 267 => 104 | 266 => 115 | 314 => 116 | n => n, fun | 9 => 9 | 3 => 3 | 4 => 4 | 5 => 5 | 46 => 40 | 146 => 151 | 51 => 150 | n => n, fun | 1 => 1 | n => n⟩
theorem ag_lays219 : Go.Proofs.Lays.n219 Tryz.prog ag_lays219_ren := {
  mixed := by kernel_rfl
  f217 := Tryz.func101.trans (congrArg some (by kernel_rfl))
  f219 := Tryz.func85.trans (congrArg some (by kernel_rfl))
  f224 := Tryz.func103.trans (congrArg some (by kernel_rfl))
  f225 := Tryz.func102.trans (congrArg some (by kernel_rfl))
  f266 := Tryz.func115.trans (congrArg some (by kernel_rfl))
  f267 := Tryz.func104.trans (congrArg some (by kernel_rfl))
  f314 := Tryz.func116.trans (congrArg some (by kernel_rfl))
  t3 := Tryz.underlying3
  a3 := Tryz.isAgg3
  z3 := Tryz.sizeOf3
  v3 := Tryz.zeroValue3
  t4 := Tryz.underlying4
  a4 := Tryz.isAgg4
  z4 := Tryz.sizeOf4
  v4 := Tryz.zeroValue4
  t5 := Tryz.underlying5
  a5 := Tryz.isAgg5
  z5 := Tryz.sizeOf5
  v5 := Tryz.zeroValue5
  t9 := Tryz.underlying9
  a9 := Tryz.isAgg9
  z9 := Tryz.sizeOf9
  v9 := Tryz.zeroValue9
  t46 := Tryz.underlying40
  a46 := Tryz.isAgg40
  z46 := Tryz.sizeOf40
  v46 := Tryz.zeroValue40
  t51 := Tryz.underlying150
  a51 := Tryz.isAgg150
  z51 := Tryz.sizeOf150
  v51 := Tryz.zeroValue150
  t146 := Tryz.underlying151
  a146 := Tryz.isAgg151
  z146 := Tryz.sizeOf151
  v146 := Tryz.zeroValue151
  g1 := by kernel_rfl }
def ag_lays99_ren : Go.Shelf.Ren := ⟨fun | 99 => 107 | 206 => 122 | n => n, fun | 9 => 9 | 4 => 4 | 3 => 3 | n => n, fun | n => n⟩
theorem ag_lays99 : Go.Proofs.Lays.n99 Tryz.prog ag_lays99_ren := {
  mixed := by kernel_rfl
  f99 := Tryz.func107.trans (congrArg some (by kernel_rfl))
  f206 := Tryz.func122.trans (congrArg some (by kernel_rfl))
  t3 := Tryz.underlying3
  a3 := Tryz.isAgg3
  z3 := Tryz.sizeOf3
  v3 := Tryz.zeroValue3
  t4 := Tryz.underlying4
  a4 := Tryz.isAgg4
  z4 := Tryz.sizeOf4
  v4 := Tryz.zeroValue4
  t9 := Tryz.underlying9
  a9 := Tryz.isAgg9
  z9 := Tryz.sizeOf9
  v9 := Tryz.zeroValue9 }
def ag_laysC172_ren : Go.Shelf.Ren := ⟨fun | 172 => 120 | 244 => 131 | 245 => 132 | 247 => 138 | 279 => 139 | 280 => 140 | 281 => 141 | 282 => 142 | 287 => 144 | 316 => 145 | 171 => 42 | 205 => 146 | 321 => 148 | 322 => 149 | 243 => 75 | 246 => 96 | 283 => 109 | 284 => 110 | 285 => 111 | 286 => 112 | 129 => 124 | 317 => 123 | 318 => 125 | 319 => 126 | 320 => 127 | 337 => 134 | 338 => 135 | n => n, fun | 9 => 9 | 3 => 3 | 75 => 53 | 76 => 54 | 4 => 4 | 5 => 5 | 167 => 166 | 37 => 49 | 0 => 0 | 85 => 167 | 2 => 2 | 168 => 169 | 53 => 134 | 175 => 174 | 46 => 40 | 210 => 177 | 127 => 91 | 145 => 185 | 143 => 183 | 21 => 21 | 171 => 143 | 173 => 146 | 212 => 158 | 51 => 150 | 20 => 20 | 213 => 159 | 232 => 172 | 233 => 173 | 80 => 65 | n => n, fun | 15 => 5 | 16 => 6 | 17 => 2 | 18 => 3 | 19 => 4 | n => n⟩
theorem ag_laysC172 : Go.Proofs.LaysC.n172 Tryz.prog ag_laysC172_ren := {
  mixed := by kernel_rfl
  f129 := Tryz.func124.trans (congrArg some (by kernel_rfl))
  f171 := Tryz.func42.trans (congrArg some (by kernel_rfl))
  f172 := Tryz.func120.trans (congrArg some (by kernel_rfl))
  f205 := Tryz.func146.trans (congrArg some (by kernel_rfl))
  f243 := Tryz.func75.trans (congrArg some (by kernel_rfl))
  f244 := Tryz.func131.trans (congrArg some (by kernel_rfl))
  f245 := Tryz.func132.trans (congrArg some (by kernel_rfl))
  f246 := Tryz.func96.trans (congrArg some (by kernel_rfl))
  f247 := Tryz.func138.trans (congrArg some (by kernel_rfl))
  f279 := Tryz.func139.trans (congrArg some (by kernel_rfl))
  f280 := Tryz.func140.trans (congrArg some (by kernel_rfl))
  f281 := Tryz.func141.trans (congrArg some (by kernel_rfl))
  f282 := Tryz.func142.trans (congrArg some (by kernel_rfl))
  f283 := Tryz.func109.trans (congrArg some (by kernel_rfl))
  f284 := Tryz.func110.trans (congrArg some (by kernel_rfl))
  f285 := Tryz.func111.trans (congrArg some (by kernel_rfl))
  f286 := Tryz.func112.trans (congrArg some (by kernel_rfl))
  f287 := Tryz.func144.trans (congrArg some (by kernel_rfl))
  f316 := Tryz.func145.trans (congrArg some (by kernel_rfl))
  f317 := Tryz.func123.trans (congrArg some (by kernel_rfl))
  f318 := Tryz.func125.trans (congrArg some (by kernel_rfl))
  f319 := Tryz.func126.trans (congrArg some (by kernel_rfl))
  f320 := Tryz.func127.trans (congrArg some (by kernel_rfl))
  f321 := Tryz.func148.trans (congrArg some (by kernel_rfl))
  f322 := Tryz.func149.trans (congrArg some (by kernel_rfl))
  f337 := Tryz.func134.trans (congrArg some (by kernel_rfl))
  f338 := Tryz.func135.trans (congrArg some (by kernel_rfl))
  t0 := Tryz.underlying0
  a0 := Tryz.isAgg0
  z0 := Tryz.sizeOf0
  v0 := Tryz.zeroValue0
  t2 := Tryz.underlying2
  a2 := Tryz.isAgg2
  z2 := Tryz.sizeOf2
  v2 := Tryz.zeroValue2
  t3 := Tryz.underlying3
  a3 := Tryz.isAgg3
  z3 := Tryz.sizeOf3
  v3 := Tryz.zeroValue3
  t4 := Tryz.underlying4
  a4 := Tryz.isAgg4
  z4 := Tryz.sizeOf4
  v4 := Tryz.zeroValue4
  t5 := Tryz.underlying5
  a5 := Tryz.isAgg5
  z5 := Tryz.sizeOf5
  v5 := Tryz.zeroValue5
  t9 := Tryz.underlying9
  a9 := Tryz.isAgg9
  z9 := Tryz.sizeOf9
  v9 := Tryz.zeroValue9
  t20 := Tryz.underlying20
  a20 := Tryz.isAgg20
  z20 := Tryz.sizeOf20
  v20 := Tryz.zeroValue20
  t21 := Tryz.underlying21
  a21 := Tryz.isAgg21
  z21 := Tryz.sizeOf21
  v21 := Tryz.zeroValue21
  t37 := Tryz.underlying49
  a37 := Tryz.isAgg49
  z37 := Tryz.sizeOf49
  v37 := Tryz.zeroValue49
  t46 := Tryz.underlying40
  a46 := Tryz.isAgg40
  z46 := Tryz.sizeOf40
  v46 := Tryz.zeroValue40
  t51 := Tryz.underlying150
  a51 := Tryz.isAgg150
  z51 := Tryz.sizeOf150
  v51 := Tryz.zeroValue150
  t53 := Tryz.underlying134
  a53 := Tryz.isAgg134
  z53 := Tryz.sizeOf134
  v53 := Tryz.zeroValue134
  t75 := Tryz.underlying53
  a75 := Tryz.isAgg53
  z75 := Tryz.sizeOf53
  v75 := Tryz.zeroValue53
  t76 := Tryz.underlying54
  a76 := Tryz.isAgg54
  z76 := Tryz.sizeOf54
  v76 := Tryz.zeroValue54
  t85 := Tryz.underlying167
  a85 := Tryz.isAgg167
  z85 := Tryz.sizeOf167
  v85 := Tryz.zeroValue167
  t127 := Tryz.underlying91
  a127 := Tryz.isAgg91
  z127 := Tryz.sizeOf91
  v127 := Tryz.zeroValue91
  t143 := Tryz.underlying183
  a143 := Tryz.isAgg183
  z143 := Tryz.sizeOf183
  v143 := Tryz.zeroValue183
  t145 := Tryz.underlying185
  a145 := Tryz.isAgg185
  z145 := Tryz.sizeOf185
  v145 := Tryz.zeroValue185
  t167 := Tryz.underlying166
  a167 := Tryz.isAgg166
  z167 := Tryz.sizeOf166
  v167 := Tryz.zeroValue166
  t168 := Tryz.underlying169
  a168 := Tryz.isAgg169
  z168 := Tryz.sizeOf169
  v168 := Tryz.zeroValue169
  t171 := Tryz.underlying143
  a171 := Tryz.isAgg143
  z171 := Tryz.sizeOf143
  v171 := Tryz.zeroValue143
  t173 := Tryz.underlying146
  a173 := Tryz.isAgg146
  z173 := Tryz.sizeOf146
  v173 := Tryz.zeroValue146
  t175 := Tryz.underlying174
  a175 := Tryz.isAgg174
  z175 := Tryz.sizeOf174
  v175 := Tryz.zeroValue174
  t210 := Tryz.underlying177
  a210 := Tryz.isAgg177
  z210 := Tryz.sizeOf177
  v210 := Tryz.zeroValue177
  t212 := Tryz.underlying158
  a212 := Tryz.isAgg158
  z212 := Tryz.sizeOf158
  v212 := Tryz.zeroValue158
  t213 := Tryz.underlying159
  a213 := Tryz.isAgg159
  z213 := Tryz.sizeOf159
  t232 := Tryz.underlying172
  a232 := Tryz.isAgg172
  z232 := Tryz.sizeOf172
  v232 := Tryz.zeroValue172
  t233 := Tryz.underlying173
  a233 := Tryz.isAgg173
  z233 := Tryz.sizeOf173
  v233 := Tryz.zeroValue173
  g15 := by kernel_rfl
  g16 := by kernel_rfl
  g17 := by kernel_rfl
  g18 := by kernel_rfl
  g19 := by kernel_rfl
  t80 := Tryz.underlying65
  a80 := Tryz.isAgg65
  z80 := Tryz.sizeOf65
  v80 := Tryz.zeroValue65
  i0 := by kernel_rfl
  i2 := by kernel_rfl
  i3 := by kernel_rfl
  i4 := by kernel_rfl
  i5 := by kernel_rfl
  i9 := by kernel_rfl
  i20 := by kernel_rfl
  i21 := by kernel_rfl
  i37 := by kernel_rfl
  i46 := by kernel_rfl
  i51 := by kernel_rfl
  i53 := by kernel_rfl
  i75 := by kernel_rfl
  i76 := by kernel_rfl
  i80 := by kernel_rfl
  i85 := by kernel_rfl
  i127 := by kernel_rfl
  i143 := by kernel_rfl
  i145 := by kernel_rfl
  i167 := by kernel_rfl
  i168 := by kernel_rfl
  i171 := by kernel_rfl
  i173 := by kernel_rfl
  i175 := by kernel_rfl
  i210 := by kernel_rfl
  i212 := by kernel_rfl
  i232 := by kernel_rfl
  i233 := by kernel_rfl
  m15 := by kernel_rfl
  m16 := by kernel_rfl
  m17 := by kernel_rfl
  m18 := by kernel_rfl
  m19 := by kernel_rfl
  c0 := by kernel_rfl
  c2 := by kernel_rfl
  c3 := by kernel_rfl
  c4 := by kernel_rfl
  c5 := by kernel_rfl
  c9 := by kernel_rfl
  c20 := by kernel_rfl
  c21 := by kernel_rfl
  c37 := by kernel_rfl
  c46 := by kernel_rfl
  c51 := by kernel_rfl
  c53 := by kernel_rfl
  c75 := by kernel_rfl
  c76 := by kernel_rfl
  c80 := by kernel_rfl
  c85 := by kernel_rfl
  c127 := by kernel_rfl
  c143 := by kernel_rfl
  c145 := by kernel_rfl
  c167 := by kernel_rfl
  c168 := by kernel_rfl
  c171 := by kernel_rfl
  c173 := by kernel_rfl
  c175 := by kernel_rfl
  c210 := by kernel_rfl
  c212 := by kernel_rfl
  c213 := by kernel_rfl
  c232 := by kernel_rfl
  c233 := by kernel_rfl }
open Go.RowKit in
theorem ag_strings_CutPrefix (s p : ByteArray) (w : World) :
    Calls Tryz.prog 118 #[.string s, .string p] w fun e w' => e = .returned (.tuple #[.string ⟨(Lib.trimPrefix s.data.toList p.data.toList).toArray⟩, .bool (Lib.hasPrefix s.data.toList p.data.toList)]) ∧ w' = w := Any.strings_CutPrefix ag_lays103 s p w
open Go.RowKit in
theorem ag_strings_CutSuffix (s p : ByteArray) (w : World) (hs : s.size ≤ 9223372036854775807) :
    Calls Tryz.prog 119 #[.string s, .string p] w fun e w' => e = .returned (.tuple #[.string ⟨(Lib.trimSuffix s.data.toList p.data.toList).toArray⟩, .bool (Lib.hasSuffix s.data.toList p.data.toList)]) ∧ w' = w := Any.strings_CutSuffix ag_lays104 s p w hs
open Go.RowKit in
theorem ag_strconv_Atoi_ok (s : ByteArray) (hmax : s.size ≤ 9223372036854775806) (v : Int) (h : Lib.atoiAll s.data.toList = .ok v) (w : World) :
    Calls Tryz.prog 120 #[.string s] w fun e w' => e = .returned (.tuple #[.int .i64 v, .nilIface]) ∧ (w' = w ∨ ∃ t, w' = Lib.bytesWorld w 5 t) := Any.strconv_Atoi_ok ag_laysC172 s hmax v h w
open Go.RowKit in
theorem ag_strconv_Atoi_syntax (s : ByteArray) (hlim : s.size ≤ 281474976710656) (h : Lib.atoiAll s.data.toList = Lib.atoiAll []) (ev : Value) (w : World) (hv : w.cell? ⟨5, 0, none⟩ = some ev) (hev : ev = .nilIface ∨ ∃ te pe, ev = .iface te pe) :
    Calls Tryz.prog 120 #[.string s] w fun e w' => ∃ N, e = .returned (.tuple #[.int .i64 (0), .iface 169 (.pointer (some ⟨N, 0, none⟩))]) ∧ w.heap.size ≤ N ∧ w'.heap[N]? = some (.cells #[.string ⟨#[65, 116, 111, 105]⟩, .string s, ev] 177 (0, 0)) ∧ Below w.heap.size w w' := Any.strconv_Atoi_syntax ag_laysC172 s hlim h ev w hv hev
open Go.RowKit in
theorem ag_strconv_Atoi_range (s : ByteArray) (hlim : s.size ≤ 281474976710656) (h : Lib.atoiAll s.data.toList = .range) (ev : Value) (w : World) (hv : w.cell? ⟨6, 0, none⟩ = some ev) (hev : ev = .nilIface ∨ ∃ te pe, ev = .iface te pe) :
    Calls Tryz.prog 120 #[.string s] w fun e w' => ∃ N, e = .returned (.tuple #[.int .i64 (Lib.atoiSat s.data.toList), .iface 169 (.pointer (some ⟨N, 0, none⟩))]) ∧ w.heap.size ≤ N ∧ w'.heap[N]? = some (.cells #[.string ⟨#[65, 116, 111, 105]⟩, .string s, ev] 177 (0, 0)) ∧ Below w.heap.size w w' := Any.strconv_Atoi_range ag_laysC172 s hlim h ev w hv hev
open Go.RowKit Go.Lib in
theorem ag_stringslite_Index_one (s : ByteArray) (c : UInt8) (w : World) :
    Calls Tryz.prog 85 #[.string s, .string ⟨#[c]⟩] w fun e w' => e = .returned (.int .i64 (Lib.indexByte s.data.toList c)) ∧ w' = w := Any.stringslite_Index_one ag_lays219 s c w
open Go.RowKit Go.Lib in
theorem ag_strings_HasPrefix (s p : ByteArray) (w : World) :
    Calls Tryz.prog 107 #[.string s, .string p] w fun e w' => e = .returned (.bool (Lib.hasPrefix s.data.toList p.data.toList)) ∧ w' = w := Any.strings_HasPrefix ag_lays99 s p w
open Go.RowKit Go.Lib in
theorem ag_strings_TrimPrefix (s p : ByteArray) (w : World) :
    Calls Tryz.prog 121 #[.string s, .string p] w fun e w' => e = .returned (.string ⟨(Lib.trimPrefix s.data.toList p.data.toList).toArray⟩) ∧ w' = w := Any.strings_TrimPrefix ag_lays101 s p w

end Go.Proofs.YtfngechoipngmaaGreatDoor

namespace Go.Proofs.YtfngechoipngmaaGreatDoor
open Go.RowKit
set_option maxRecDepth 100000

end Go.Proofs.YtfngechoipngmaaGreatDoor

namespace Go.Proofs.YtfngechoipngmaaGreatDoor
open Go.RowKit
set_option maxRecDepth 100000

/-- what the errors' variables hold -/
structure GE (w : World) : Prop where
  g : G w
  syn : ∃ ev, w.cell? ⟨5, 0, none⟩ = some ev ∧ (ev = .nilIface ∨ ∃ te pe, ev = .iface te pe)
  rng : ∃ ev, w.cell? ⟨6, 0, none⟩ = some ev ∧ (ev = .nilIface ∨ ∃ te pe, ev = .iface te pe)

theorem GE.below {B : Nat} {w w' : World} (h : GE w) (hb : Below B w w') (hB : 7 ≤ B) : GE w' := by
  refine ⟨h.g.below hb hB, ?_, ?_⟩
  · obtain ⟨ev, e, h2⟩ := h.syn
    exact ⟨ev, (hb.cell (show (⟨5, 0, none⟩ : Addr).block < B by show 5 < B; omega)).trans e, h2⟩
  · obtain ⟨ev, e, h2⟩ := h.rng
    exact ⟨ev, (hb.cell (show (⟨6, 0, none⟩ : Addr).block < B by show 6 < B; omega)).trans e, h2⟩

/-- a text of at most n bytes, and a bool -/
structure RetC (n : Nat) (e : Ending) : Prop where
  ex : ∃ (t : ByteArray) (b : Bool), e = .returned (.tuple #[.string t, .bool b]) ∧ t.size ≤ n
/-- an int, and an error or none -/
structure RetA (e : Ending) : Prop where
  ex : ∃ (v : Int) (ev : Value), e = .returned (.tuple #[.int .i64 v, ev]) ∧ inI v ∧ (ev = .nilIface ∨ ∃ t p, ev = .iface t p)
/-- an int, and a bool -/
structure RetN (e : Ending) : Prop where
  ex : ∃ (n : Int) (b : Bool), e = .returned (.tuple #[.int .i64 n, .bool b]) ∧ inI n
theorem RetN.mk' {n : Int} {b : Bool} (h : inI n) : RetN (.returned (.tuple #[.int .i64 n, .bool b])) := ⟨n, b, rfl, h⟩

theorem trimPrefix_le (s p : List UInt8) : (Lib.trimPrefix s p).length ≤ s.length := by
  unfold Lib.trimPrefix
  split
  · simp
  · exact Nat.le_refl _
theorem trimSuffix_le (s p : List UInt8) : (Lib.trimSuffix s p).length ≤ s.length := by
  unfold Lib.trimSuffix
  split
  · simp
  · exact Nat.le_refl _

theorem cutp_ret (s p : ByteArray) (w : World) : Calls Tryz.prog 118 #[.string s, .string p] w fun e w' => RetC s.size e ∧ w' = w := by
  refine (ag_strings_CutPrefix s p w).mono ?_
  rintro e w' ⟨rfl, rfl⟩
  exact ⟨⟨_, _, rfl, trimPrefix_le _ _⟩, rfl⟩
theorem cuts_ret (s p : ByteArray) (hs : s.size ≤ 400000) (w : World) : Calls Tryz.prog 119 #[.string s, .string p] w fun e w' => RetC s.size e ∧ w' = w := by
  refine (ag_strings_CutSuffix s p w (by omega)).mono ?_
  rintro e w' ⟨rfl, rfl⟩
  exact ⟨⟨_, _, rfl, trimSuffix_le _ _⟩, rfl⟩

theorem atoi_ret (s : ByteArray) (hs : s.size ≤ 400000) (w : World) (hG : GE w) : Calls Tryz.prog 120 #[.string s] w fun e w' => RetA e ∧ Below w.heap.size w w' := by
  rcases h : Lib.atoiAll s.data.toList with v | _ | _
  · obtain ⟨h1, h2⟩ := Lib.atoiAll_bounds h
    refine (ag_strconv_Atoi_ok s (by omega) v h w).mono ?_
    rintro e w' ⟨rfl, hw⟩
    refine ⟨⟨v, _, rfl, by unfold inI; omega, .inl rfl⟩, ?_⟩
    rcases hw with rfl | ⟨t, rfl⟩
    · exact Below.refl _ _
    · exact Lib.bytesWorld_below _ _ _
  · obtain ⟨ev, he, h2⟩ := hG.syn
    refine (ag_strconv_Atoi_syntax s (by omega) h ev w he h2).mono ?_
    rintro e w' ⟨N, rfl, _, _, hb⟩
    exact ⟨⟨0, _, rfl, by unfold inI; omega, .inr ⟨_, _, rfl⟩⟩, hb⟩
  · obtain ⟨ev, he, h2⟩ := hG.rng
    obtain ⟨h1, h3⟩ := Lib.atoiSat_bounds s.data.toList
    refine (ag_strconv_Atoi_range s (by omega) h ev w he h2).mono ?_
    rintro e w' ⟨N, rfl, _, _, hb⟩
    exact ⟨⟨_, _, rfl, by unfold inI; omega, .inr ⟨_, _, rfl⟩⟩, hb⟩

theorem trimp_ret (s p : ByteArray) (w : World) : Calls Tryz.prog 121 #[.string s, .string p] w fun e w' => ∃ t : ByteArray, e = .returned (.string t) ∧ t.size ≤ s.size ∧ w' = w := by
  refine (ag_strings_TrimPrefix s p w).mono ?_
  rintro e w' ⟨rfl, rfl⟩
  exact ⟨_, rfl, trimPrefix_le _ _, rfl⟩

set_option maxHeartbeats 4000000 in
theorem number_ret (s p q : ByteArray) (hs : s.size ≤ 400000) (w : World) (hG : GE w) :
    Calls Tryz.prog 106 #[.string s, .string p, .string q] w fun e w' => RetN e ∧ Below w.heap.size w w' := by
  have h7 := hG.g.size
  have HG := Lib.hid hG
  clear hG
  go_enter Tryz.func106, Tryz.ntmps106
  go_wp2_with (first
    | (go_at_call 118; refine (cutp_ret _ _ _).mono ?_; rintro e w1 ⟨hr, rfl⟩; obtain ⟨t, b, rfl, ht⟩ := hr.ex)
    | fail)
  go_wp2_with (first
    | (go_at_call 119; refine (cuts_ret _ _ (by omega) _).mono ?_; rintro e w1 ⟨hr, rfl⟩; obtain ⟨t2, b2, rfl, ht2⟩ := hr.ex)
    | fail)
  go_wp2_with (first
    | (go_at_call 120; refine (atoi_ret _ (by omega) _ HG.out).mono ?_; rintro e w1 ⟨hr, hb1⟩; obtain ⟨n, ev, rfl, hn, hev⟩ := hr.ex; have hg1 := (HG.out.below hb1 h7).g; clear HG; rcases hev with rfl | ⟨tv, pv, rfl⟩)
    | (go_at_call 42; refine (itoa_ret _ ?h1 _ ?h2).mono ?_; (case h1 => assumption); (case h2 => assumption); rintro e w2 ⟨rfl, hsz, hb2⟩)
    | (go_at_call 121; refine (trimp_ret _ _ _).mono ?_; rintro e w3 ⟨t3, rfl, ht3, rfl⟩)
    | fail)
  all_goals
    go_ret2
    first
      | exact ⟨RetN.mk' hn, hb1⟩
      | exact ⟨RetN.mk' hn, hb1.trans (hb2.mono hb1.size)⟩

end Go.Proofs.YtfngechoipngmaaGreatDoor

namespace Go.Proofs.YtfngechoipngmaaGreatDoor
open Go.RowKit
set_option maxRecDepth 100000

section
variable {P : Program} {w : World}

/-- .. in the old row's block or in a new one -/
theorem run_append_place (base : Nat) (t ty e : TypeId) (i : TypeInfo) (z : Value) (size bytes : Nat) (ht : P.underlying t = some (.slice e)) (hi : P.info? e = some i) (hz : i.zero = some z)
    (hsize : i.size = size) (hby : i.bytes = bytes) (hzs : z.cells.size = size) (hsz : 0 < size)
    (v : Value) (n : Nat) (xs : List Value) (hown : w.ownsRow base e size v n xs)
    (a : Addr) (m c : Nat) (news : List Value) (hl : news.length = m * size) (hnews : ∀ j u, news[j]? = some u → w.cell? (a.add j) = some u) (h1 : ∀ u ∈ news, u.oneCell' = true)
    (h63 : n + m ≤ maxLen) (hbytes : (n + m) * bytes ≤ 140737488355328) (hbase : base ≤ w.heap.size) (h0 : 0 < m) :
    ∃ v' w', (Builtin.append_ #[t, t] ty #[v, .slice (some a) m c]).run P w = .ok v' w' ∧ w'.ownsRow base e size v' (n + m) (xs ++ news) ∧ w.grownBy w' v.ownBlock ∧
      (v'.ownBlock = v.ownBlock ∨ v'.ownBlock = some w.heap.size) := by
  obtain ⟨v', w', hr, h2, h3, _⟩ := run_append_own (P := P) w base t ty e i z size bytes ht hi hz hsize hby hzs hsz v n xs hown a m c news hl hnews h1 h63 hbytes hbase
  refine ⟨v', w', hr, h2, h3, ?_⟩
  subst hsize
  subst hby
  have hsmall : n + m ≤ 9223372036854775807 := by simp only [maxLen] at h63; omega
  rcases hown.2 with ⟨rfl, rfl⟩ | ⟨g, cap, cur, rfl, hbg, hg, hnc, hcm, hcs, htake⟩
  · rw [run_append_nil (P := P) w t ty e i z ht hi hz a m c news hl hnews h0 (by omega) (by have hb := hbytes; simp only [Nat.zero_add] at hb; omega)] at hr
    cases hr
    exact .inr rfl
  · by_cases hroom : n + m ≤ cap
    · have hfit : n * i.size + news.length ≤ cur.size := by rw [hl, hcs, ← Nat.add_mul]; exact Nat.mul_le_mul_right _ hroom
      rw [run_append_room (P := P) w t ty e i ht hi g n cap cur hg a m c news hl hnews h1 hroom hfit] at hr
      cases hr
      exact .inl rfl
    · have holds : ∀ j u, xs[j]? = some u → w.cell? ((⟨g, 0, none⟩ : Addr).add j) = some u := hown.cells (g := g) rfl
      rw [run_append_grow (P := P) w t ty e i z ht hi hz ⟨g, 0, none⟩ n cap xs hown.1 holds a m c news hl hnews (by omega) (by omega) (growslice_fits (by omega) hbytes)] at hr
      cases hr
      exact .inr rfl

theorem wp_append_place {o : Oper} {a : Act} {K : Act → World → Prop} {Q : Exit → Act → World → Prop} (s x : Operand) (t : TypeId)
    (ho : o.op = .call { callee := .builtin .append, args := #[s, x], argTypes := #[t, t] })
    (base : Nat) (e : TypeId) (i : TypeInfo) (z : Value) (size bytes : Nat) (ht : P.underlying t = some (.slice e)) (hi : P.info? e = some i) (hz : i.zero = some z)
    (hsize : i.size = size) (hby : i.bytes = bytes) (hzs : z.cells.size = size) (hsz : 0 < size)
    (v : Value) (n : Nat) (xs : List Value) (hs : a.eval s = v) (hown : w.ownsRow base e size v n xs)
    (ad : Addr) (m c : Nat) (news : List Value) (hx : a.eval x = .slice (some ad) m c) (hl : news.length = m * size) (hnews : ∀ j u, news[j]? = some u → w.cell? (ad.add j) = some u) (h1 : ∀ u ∈ news, u.oneCell' = true)
    (h63 : n + m ≤ maxLen) (hbytes : (n + m) * bytes ≤ 140737488355328) (hbase : base ≤ w.heap.size) (h0 : 0 < m)
    (h : ∀ v' w', w'.ownsRow base e size v' (n + m) (xs ++ news) → w.grownBy w' v.ownBlock → (v'.ownBlock = v.ownBlock ∨ v'.ownBlock = some w.heap.size) → K (a.put o.dst v') w') : o.wp P a w K Q := by
  obtain ⟨v', w', hr, h2, h3, h4⟩ := run_append_place (P := P) (w := w) base t o.type e i z size bytes ht hi hz hsize hby hzs hsz v n xs hown ad m c news hl hnews h1 h63 hbytes hbase h0
  unfold Oper.wp execOp
  simp only [ho, resolve, invoke, builtin, Sem.run_bind, Sem.run_pure, Result.andThen_ok, List.map_toArray, List.map_cons, List.map_nil, hs, hx, hr]
  exact h v' w' h2 h3 h4

theorem wpList_append_place {ops : Array Oper} {rest : List Oper} {o : Oper} {a : Act} {Q : Exit → Act → World → Prop} (hgd : o.guard = none) (s x : Operand) (t : TypeId)
    (ho : o.op = .call { callee := .builtin .append, args := #[s, x], argTypes := #[t, t] })
    (base : Nat) (e : TypeId) (i : TypeInfo) (z : Value) (size bytes : Nat) (ht : P.underlying t = some (.slice e)) (hi : P.info? e = some i) (hz : i.zero = some z)
    (hsize : i.size = size) (hby : i.bytes = bytes) (hzs : z.cells.size = size) (hsz : 0 < size)
    (v : Value) (n : Nat) (xs : List Value) (hs : a.eval s = v) (hown : w.ownsRow base e size v n xs)
    (ad : Addr) (m c : Nat) (news : List Value) (hx : a.eval x = .slice (some ad) m c) (hl : news.length = m * size) (hnews : ∀ j u, news[j]? = some u → w.cell? (ad.add j) = some u) (h1 : ∀ u ∈ news, u.oneCell' = true)
    (h63 : n + m ≤ maxLen) (hbytes : (n + m) * bytes ≤ 140737488355328) (hbase : base ≤ w.heap.size) (h0 : 0 < m)
    (h : ∀ v' w', w'.ownsRow base e size v' (n + m) (xs ++ news) → w.grownBy w' v.ownBlock → (v'.ownBlock = v.ownBlock ∨ v'.ownBlock = some w.heap.size) → wpList P ops Q rest (a.put o.dst v') w') : wpList P ops Q (o :: rest) a w :=
  wpList_plain hgd fun _ hK => wp_append_place s x t ho base e i z size bytes ht hi hz hsize hby hzs hsz v n xs hs hown ad m c news hx hl hnews h1 h63 hbytes hbase h0 fun v' w' h2 h3 h4 => hK _ _ (h v' w' h2 h3 h4)

end
end Go.Proofs.YtfngechoipngmaaGreatDoor

namespace Go.Proofs.YtfngechoipngmaaGreatDoor
open Go.RowKit
set_option maxRecDepth 100000

/-- a line's runes and where the reader of words stands -/
structure Rn (rn rb cap : Nat) (zs : List Int) (k : Nat) (W : World) : Prop where
  blk : W.heap[rn]? = some (.cells #[.slice (some ⟨rb, 0, none⟩) zs.length cap, .int .i64 k] 113 (0, 0))
  row : ∀ j, j < zs.length → W.cell? ⟨rb, j, none⟩ = some (.int .i32 (zs.getD j 0))
  ne : rb ≠ rn
  le : zs.length ≤ 100000
  cp : zs.length ≤ cap

/-- a piece of the row, as text -/
def piece (zs : List Int) (a b : Nat) : ByteArray := runesBytes ((zs.drop a).take (b - a))

theorem piece_size (zs : List Int) (a b : Nat) (h : zs.length ≤ 100000) : (piece zs a b).size ≤ 400000 := by
  have h1 := runesBytes_size_le ((zs.drop a).take (b - a))
  have h2 : ((zs.drop a).take (b - a)).length ≤ zs.length := by simp; omega
  unfold piece
  omega

theorem piece_run {zs : List Int} {rb : Nat} {W : World} (hr : ∀ j, j < zs.length → W.cell? ⟨rb, j, none⟩ = some (.int .i32 (zs.getD j 0))) (a b c : Nat) (ha : a ≤ b) (hb : b ≤ zs.length) :
    (convert 111 9 (.slice (some ⟨rb, a, none⟩) (b - a) c)).run Tryz.prog W = .ok (.string (piece zs a b)) W := by
  refine run_convert_runes W 111 9 21 ⟨rb, a, none⟩ (b - a) c (zs.drop a) (by simp; omega) Tryz.underlying111 Tryz.underlying21 Tryz.underlying9 (fun j hj => ?_)
  have hj' : j < zs.length - a := by simpa using hj
  have e : (⟨rb, a, none⟩ : Addr).add j = ⟨rb, a + j, none⟩ := by unfold Addr.add; split <;> simp_all
  rw [e, hr (a + j) (by omega)]
  simp [List.getD, List.getElem?_drop]

theorem grown_drewN (w : World) (n : Nat) (row : Option Nat) : w.grownBy (w.drewN n) row := ⟨rfl, rfl, rfl, Nat.le_refl _, fun _ _ _ => rfl⟩
theorem grown_trans {w w1 w2 : World} {row : Option Nat} (h : w.grownBy w1 row) (h' : w1.grownBy w2 row) : w.grownBy w2 row :=
  ⟨h'.os.trans h.os, h'.tape.trans h.tape, h'.output.trans h.output, Nat.le_trans h.size h'.size, fun k hk hn => (h'.block k (Nat.lt_of_lt_of_le hk h.size) hn).trans (h.block k hk hn)⟩
theorem grown_set (w : World) (b o : Nat) (v : Value) : w.grownBy (w.setCell ⟨b, o, none⟩ v) (some b) :=
  ⟨rfl, rfl, rfl, Nat.le_of_eq (by unfold World.setCell; simp), fun k _ hn => Below.heap_setCell _ _ _ _ (fun e => hn (by rw [e]))⟩

theorem Rn.drewN {rn rb cap k : Nat} {zs : List Int} {W : World} (h : Rn rn rb cap zs k W) (n : Nat) : Rn rn rb cap zs k (W.drewN n) := ⟨h.blk, h.row, h.ne, h.le, h.cp⟩

theorem set_block {w : World} {b i : Nat} {cs : Array Value} {T : TypeId} {fr : Nat × Nat} (hb : w.heap[b]? = some (.cells cs T fr)) (v : Value) :
    (w.setCell ⟨b, i, none⟩ v).heap[b]? = some (.cells (cs.setIfInBounds i v) T fr) := by
  unfold World.setCell
  simp [Array.getElem?_modify, hb]

theorem Rn.set {rn rb cap k : Nat} {zs : List Int} {W : World} (h : Rn rn rb cap zs k W) (k' : Nat) : Rn rn rb cap zs k' (W.setCell ⟨rn, 1, none⟩ (.int .i64 k')) :=
  ⟨set_block h.blk _, fun j hj => (grown_set W rn 1 _).cell (h.row j hj) (by simp [h.ne]), h.ne, h.le, h.cp⟩

set_option maxHeartbeats 4000000 in
theorem next_ret (rn rb cap k : Nat) (zs : List Int) (w : World) (h : Rn rn rb cap zs k w) :
    Calls Tryz.prog 166 #[.pointer (some ⟨rn, 0, none⟩)] w fun e w' => ∃ s ok k', e = .returned (.tuple #[.string s, .bool ok]) ∧ s.size ≤ 400000 ∧ Rn rn rb cap zs k' w' ∧ w.grownBy w' (some rn) := by
  have HS : Hid (∀ a b, (piece zs a b).size ≤ 400000) := Lib.hid fun a b => piece_size zs a b h.le
  have HP : Hid (∀ W, (∀ j, j < zs.length → W.cell? ⟨rb, j, none⟩ = some (.int .i32 (zs.getD j 0))) → ∀ a b c, a ≤ b → b ≤ zs.length → (convert 111 9 (.slice (some ⟨rb, a, none⟩) (b - a) c)).run Tryz.prog W = .ok (.string (piece zs a b)) W) := Lib.hid fun W hr a b c ha hb => piece_run hr a b c ha hb
  have HR := Lib.hid h
  obtain ⟨hb, hr, hne, hle, hcp⟩ := h
  have HRow := Lib.hid hr
  clear hr
  have c0 : w.cell? ⟨rn, 0, none⟩ = some (.slice (some ⟨rb, 0, none⟩) zs.length cap) := by rw [Lib.cell_of_heap hb]; rfl
  have c1 : w.cell? ⟨rn, 1, none⟩ = some (.int .i64 k) := by rw [Lib.cell_of_heap hb]; rfl
  have f1 : w.frozen? ⟨rn, 1, none⟩ = false := Lib.frozen_of_heap hb 1
  have hk0 : (0 : Int) ≤ (k : Int) := Int.natCast_nonneg _
  by_cases hk : zs.length ≤ k
  · go_enter Tryz.func166, Tryz.ntmps166
    go_wp2
    go_quiet (fail)
    go_wp2
    go_ret2
    exact ⟨_, _, _, rfl, by decide, HR.out.drewN _, grown_drewN _ _ _⟩
  · have hk1 : k < zs.length := by omega
    have hk2 : ((k : Int)) < (zs.length : Int) := by omega
    have ck := HRow.out k hk1
    go_enter Tryz.func166, Tryz.ntmps166
    go_wp2
    go_quiet (fail)
    go_wp2
    go_quiet (fail)
    go_wp2_with fail
    clear c0 c1 f1 ck
    go_loopw [5, 6] (fun q i W => ∃ m : Nat, k ≤ m ∧ m ≤ zs.length + 1 ∧ Hid (∃ b : Bool, q = .bool b) ∧ i = .int .i64 m ∧ Hid (Rn rn rb cap zs k W) ∧ Hid (w.grownBy W (some rn))) (fun _ i _ => zs.length + 2 - (intOf i).toNat)
    case atStart => exact ⟨k, Nat.le_refl _, by omega, Lib.hid ⟨_, rfl⟩, rfl, Lib.hid ((HR.out.drewN _).drewN _), Lib.hid (grown_trans (grown_drewN _ _ _) (grown_drewN _ _ _))⟩
    case round =>
      obtain ⟨m, hkm, hm, hq, rfl, hrn, hgr⟩ := hrel
      obtain ⟨b, rfl⟩ := hq.out
      clear hq
      have c0 : wr.cell? ⟨rn, 0, none⟩ = some (.slice (some ⟨rb, 0, none⟩) zs.length cap) := by rw [Lib.cell_of_heap hrn.out.blk]; rfl
      have c1 : wr.cell? ⟨rn, 1, none⟩ = some (.int .i64 k) := by rw [Lib.cell_of_heap hrn.out.blk]; rfl
      have f1 : wr.frozen? ⟨rn, 1, none⟩ = false := Lib.frozen_of_heap hrn.out.blk 1
      by_cases hml : m < zs.length
      · have hml2 : ((m : Int)) < (zs.length : Int) := by omega
        have hm0 : (0 : Int) ≤ (m : Int) := Int.natCast_nonneg _
        have cm := hrn.out.row m hml
        generalize zs.getD m 0 = r at *
        cases b with
        | true =>
          by_cases h92 : r = 92
          · subst h92
            go_wp2
            go_roundw
            case rel => exact ⟨m + 2, by omega, by omega, Lib.hid ⟨_, rfl⟩, by go_num, hrn, hgr⟩
            case measure => simp [intOf]; omega
          · by_cases h34 : r = 34
            · subst h34
              by_cases hgt : k < m
              · have hgt2 : ((k : Int)) < (m : Int) := by omega
                go_wp2
                go_roundw
                case rel => exact ⟨m + 1, by omega, by omega, Lib.hid ⟨_, rfl⟩, by go_num, hrn, hgr⟩
                case measure => simp [intOf]; omega
              · have hgt2 : ¬ ((k : Int)) < (m : Int) := by omega
                go_wp2
                go_roundw
                case rel => exact ⟨m + 1, by omega, by omega, Lib.hid ⟨_, rfl⟩, by go_num, hrn, hgr⟩
                case measure => simp [intOf]; omega
            · go_wp2
              go_roundw
              case rel => exact ⟨m + 1, by omega, by omega, Lib.hid ⟨_, rfl⟩, by go_num, hrn, hgr⟩
              case measure => simp [intOf]; omega
        | false =>
          by_cases h32 : r = 32
          · subst h32
            have hcv := HP.out (wr.setCell ⟨rn, 1, none⟩ (.int .i64 ((m : Int) + 1))) (fun j hj => (grown_set wr rn 1 _).cell (hrn.out.row j hj) (by simp [hne])) k m (cap - k) hkm (by omega)
            go_wp2_with (simp only [hcv])
            go_ret2
            exact ⟨_, _, m + 1, rfl, HS.out _ _, hrn.out.set (m + 1), grown_trans hgr.out (grown_set _ _ _ _)⟩
          · go_wp2
            go_roundw
            case rel => exact ⟨m + 1, by omega, by omega, Lib.hid ⟨_, rfl⟩, by go_num, hrn, hgr⟩
            case measure => simp [intOf]; omega
      · have hml2 : ¬ ((m : Int)) < (zs.length : Int) := by omega
        have hmn : ((zs.length : Nat) : Int) ≤ (m : Int) := by omega
        have hrn2 := Lib.hid (hrn.out.set zs.length)
        have hgr2 := Lib.hid (grown_trans hgr.out (grown_set wr rn 1 (.int .i64 (zs.length : Int))))
        have c02 : (wr.setCell ⟨rn, 1, none⟩ (.int .i64 (zs.length : Int))).cell? ⟨rn, 0, none⟩ = some (.slice (some ⟨rb, 0, none⟩) zs.length cap) := by rw [Lib.cell_of_heap hrn2.out.blk]; rfl
        have hkl : (k : Int) ≤ (zs.length : Int) := by omega
        have hlc : (zs.length : Int) ≤ (cap : Int) := by omega
        have hl0 : (0 : Int) ≤ (zs.length : Int) := by omega
        have hmin : min (m : Int) (zs.length : Int) = (zs.length : Int) := by omega
        have hkl' : k ≤ zs.length := by omega
        have hcv := HP.out (wr.setCell ⟨rn, 1, none⟩ (.int .i64 (zs.length : Int))).drew (fun i hi => hrn2.out.row i hi) k zs.length (cap - k) (by omega) (Nat.le_refl _)
        go_wp2
        go_region_with (simp only [hcv])
        all_goals
          go_wp2
          go_ret2
          exact ⟨_, _, zs.length, rfl, HS.out _ _, hrn2.out.drewN 1, grown_trans hgr2.out (grown_drewN _ 1 _)⟩

end Go.Proofs.YtfngechoipngmaaGreatDoor

namespace Go.Proofs.YtfngechoipngmaaGreatDoor
open Go.RowKit
set_option maxRecDepth 100000

def isB (c : Int) : Prop := 0 ≤ c ∧ c ≤ 255

/-- it returns a value like that, and a bool -/
structure RetB (P : Value → Prop) (e : Ending) : Prop where
  ex : ∃ v b, e = .returned (.tuple #[v, .bool b]) ∧ P v
theorem RetB.mk' {P : Value → Prop} {v : Value} {b : Bool} (h : P v) : RetB P (.returned (.tuple #[v, .bool b])) := ⟨v, b, rfl, h⟩
def isByteV (v : Value) : Prop := ∃ d, v = .int .u8 d ∧ isB d
theorem isByteV_mk {d : Int} (h0 : 0 ≤ d) (h1 : d ≤ 255) : isByteV (.int .u8 d) := ⟨d, rfl, h0, h1⟩

set_option maxHeartbeats 2000000 in
theorem digit_ret (c : Int) (hc : isB c) (w : World) : Calls Tryz.prog 147 #[.int .u8 c] w fun e w' => RetB isByteV e ∧ w' = w := by
  obtain ⟨c0, c1⟩ := hc
  by_cases h1 : 48 ≤ c ∧ c ≤ 57
  · obtain ⟨a1, a2⟩ := h1
    go_enter Tryz.func147, Tryz.ntmps147
    go_wp2
    go_ret2
    exact ⟨RetB.mk' (isByteV_mk (by omega) (by omega)), rfl⟩
  by_cases h2 : 97 ≤ c ∧ c ≤ 102
  · obtain ⟨a1, a2⟩ := h2
    have a3 : ¬ c ≤ 57 := by omega
    go_enter Tryz.func147, Tryz.ntmps147
    go_wp2
    go_ret2
    exact ⟨RetB.mk' (isByteV_mk (by omega) (by omega)), rfl⟩
  by_cases h3 : 65 ≤ c ∧ c ≤ 70
  · obtain ⟨a1, a2⟩ := h3
    have a3 : ¬ c ≤ 57 := by omega
    have a4 : ¬ 97 ≤ c := by omega
    go_enter Tryz.func147, Tryz.ntmps147
    go_wp2
    go_ret2
    exact ⟨RetB.mk' (isByteV_mk (by omega) (by omega)), rfl⟩
  · go_enter Tryz.func147, Tryz.ntmps147
    go_wp2
    all_goals
      first
        | (exfalso; simp at *; omega)
        | (go_ret2; exact ⟨RetB.mk' (isByteV_mk (by omega) (by omega)), rfl⟩)

/-- it returns a byte, a place and a number of an error -/
structure RetE (P : Int → Prop) (e : Ending) : Prop where
  ex : ∃ d to er : Int, e = .returned (.tuple #[.int .u8 d, .int .i64 to, .int .i64 er]) ∧ isB d ∧ (er = 0 → P to) ∧ inI to ∧ inI er
theorem RetE.mk' {P : Int → Prop} {d to er : Int} (hd : isB d) (h : er = 0 → P to) (h1 : inI to) (h2 : inI er) : RetE P (.returned (.tuple #[.int .u8 d, .int .i64 to, .int .i64 er])) := ⟨d, to, er, rfl, hd, h, h1, h2⟩
/-- .. a place a little behind -/
def nearTo (k : Nat) (to : Int) : Prop := (k : Int) < to ∧ to ≤ k + 4
theorem isB_mk {c : Int} (h : 0 ≤ c) (h' : c ≤ 255) : isB c := ⟨h, h'⟩

theorem isB_byte (c : UInt8) : isB (c.toNat : Int) := ⟨by omega, by have := c.toNat_lt; omega⟩

set_option maxHeartbeats 4000000 in
theorem byByte_ret (s : ByteArray) (k : Nat) (hs : s.size ≤ 400000) (hk : k ≤ 400002) (w : World) :
    Calls Tryz.prog 143 #[.string s, .int .i64 k] w fun e w' => RetE (fun to => to = (k : Int) + 2) e ∧ w' = w := by
  have hk0 : (0 : Int) ≤ (k : Int) := Int.natCast_nonneg _
  go_enter Tryz.func143, Tryz.ntmps143
  go_wp2
  go_loop [7, 8] (fun o i => ∃ (c : Int) (m : Nat), 0 ≤ c ∧ c ≤ 255 ∧ k ≤ m ∧ m ≤ k + 2 ∧ o = .int .u8 c ∧ i = .int .i64 m) (fun _ i => k + 3 - (intOf i).toNat)
  case atStart => exact ⟨0, k, by omega, by omega, Nat.le_refl _, by omega, rfl, rfl⟩
  case round =>
    obtain ⟨c, m, hc0, hc1, hkm, hm, rfl, rfl⟩ := hrel
    have hm0 : (0 : Int) ≤ (m : Int) := Int.natCast_nonneg _
    by_cases h1 : m < k + 2
    · have h1' : (m : Int) < (k : Int) + 2 := by omega
      by_cases h2 : m < s.size
      · have h2' : ¬ (s.size : Int) ≤ (m : Int) := by omega
        go_wp2_with (go_at_call 147; refine (digit_ret _ (isB_byte _) _).mono ?_; rintro e w1 ⟨hr, rfl⟩; obtain ⟨v, b, rfl, d, rfl, hd0, hd1⟩ := hr.ex)
        · go_ret3
          exact ⟨RetE.mk' (isB_mk (by omega) (by omega)) (fun h => by omega) (by unfold inI; omega) (by unfold inI; omega), rfl⟩
        · exact ⟨⟨_, m + 1, bits_lo_u8 _ _ _, bits_hi_u8 _ _ _, by omega, by omega, rfl, by go_num⟩, by simp [intOf]; omega⟩
      · have h2' : (s.size : Int) ≤ (m : Int) := by omega
        go_wp2
        go_ret3
        exact ⟨RetE.mk' (isB_mk (by omega) (by omega)) (fun h => by omega) (by unfold inI; omega) (by unfold inI; omega), rfl⟩
    · have h1' : ¬ (m : Int) < (k : Int) + 2 := by omega
      go_wp2
      go_ret3
      exact ⟨RetE.mk' (isB_mk hc0 hc1) (fun _ => rfl) (by unfold inI; omega) (by unfold inI; omega), rfl⟩

set_option maxHeartbeats 4000000 in
theorem escape_ret (s : ByteArray) (k : Nat) (hs : s.size ≤ 400000) (hk : k ≤ 400000) (w : World) :
    Calls Tryz.prog 136 #[.string s, .int .i64 k] w fun e w' => RetE (nearTo k) e ∧ w' = w := by
  have hk0 : (0 : Int) ≤ (k : Int) := Int.natCast_nonneg _
  have HN : Hid (∀ c : Int, isB c → RetE (nearTo k) (.returned (.tuple #[.int .u8 c, .int .i64 ((k : Int) + 2), .int .i64 0]))) := Lib.hid fun c hc =>
    RetE.mk' hc (fun _ => ⟨by omega, by omega⟩) (by unfold inI; omega) (by unfold inI; omega)
  have HZ : Hid (∀ er, (er = 21 ∨ er = 8) → RetE (nearTo k) (.returned (.tuple #[.int .u8 0, .int .i64 0, .int .i64 er]))) := Lib.hid fun er he => RetE.mk' (isB_mk (by decide) (by decide)) (fun h => by omega) (by unfold inI; omega) (by unfold inI; omega)
  by_cases h1 : s.size ≤ k + 1
  · have h1' : (s.size : Int) ≤ (k : Int) + 1 := by omega
    go_enter Tryz.func136, Tryz.ntmps136
    go_wp2
    go_ret3
    exact ⟨HZ.out _ (by omega), rfl⟩
  · have h1' : ¬ (s.size : Int) ≤ (k : Int) + 1 := by omega
    have h2 : k + 1 < s.size := by omega
    have HB := byByte_ret s (k + 2) hs (by omega)
    have HC := Lib.hid HB
    clear HB
    go_enter Tryz.func136, Tryz.ntmps136
    go_wp2_with (go_at_call 143; refine (HC.out _).mono ?_; rintro e w1 ⟨hr, rfl⟩; obtain ⟨d, to, er, rfl, hd, hv, hto, her⟩ := hr.ex)
    all_goals
      go_ret3
      first
        | exact ⟨HZ.out 21 (Or.inl rfl), rfl⟩
        | exact ⟨HN.out _ (isB_byte _), rfl⟩
        | exact ⟨HN.out _ (isB_mk (by decide) (by decide)), rfl⟩
        | exact ⟨RetE.mk' hd (fun h => ⟨by have := hv h; omega, by have := hv h; omega⟩) hto her, rfl⟩

set_option maxHeartbeats 4000000 in
theorem one_ret (s : ByteArray) (k : Nat) (hs : s.size ≤ 400000) (hk : k < s.size) (w : World) :
    Calls Tryz.prog 128 #[.string s, .int .i64 k] w fun e w' => RetE (nearTo k) e ∧ w' = w := by
  have hk0 : (0 : Int) ≤ (k : Int) := Int.natCast_nonneg _
  have hk1 : (k : Int) < (s.size : Int) := by omega
  have HE := Lib.hid (escape_ret s k hs (by omega))
  go_enter Tryz.func128, Tryz.ntmps128
  go_wp2_with (go_at_call 136; refine (HE.out _).mono ?_; rintro e w1 ⟨hr, rfl⟩; obtain ⟨d, to, er, rfl, hd, hv, hto, her⟩ := hr.ex)
  all_goals
    go_ret3
    first
      | exact ⟨RetE.mk' hd hv hto her, rfl⟩
      | exact ⟨RetE.mk' (isB_byte _) (fun _ => ⟨by omega, by omega⟩) (by unfold inI; omega) (by unfold inI; omega), rfl⟩

end Go.Proofs.YtfngechoipngmaaGreatDoor
