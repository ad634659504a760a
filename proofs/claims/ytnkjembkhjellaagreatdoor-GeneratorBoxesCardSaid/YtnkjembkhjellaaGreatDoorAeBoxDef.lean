/-
  The heads of the second loop of GeneratorBoxes: the state behind i rounds, in front of round i.
-/
import Derived.Test.YtnkjembkhjellaaGreatDoorAeMay
import Derived.Test.YtnkjembkhjellaaGreatDoorAeGoes
import Derived.Test.YtnkjembkhjellaaGreatDoorAeLoop
namespace Go.Proofs.YtnkjembkhjellaaGreatDoor
open Go.AE
set_option maxRecDepth 100000

/-- element j of the slice that is given -/
def vB (j : Nat) : AV := .agg [.sint .i64 (.var (10 + 2 * j)) 0 5, .sint .i64 (.var (11 + 2 * j)) (-9223372036854775808) 9223372036854775807, .sstr (10 + j) 0 500]
def valsB (n : Nat) : List AV := (List.range n).flatMap fun j => [.sint .i64 (.var (10 + 2 * j)) 0 5, .sint .i64 (.var (11 + 2 * j)) (-9223372036854775808) 9223372036854775807, .sstr (10 + j) 0 500]
noncomputable def gsB : List (FuncId × List Known) := [(136, (List.range 50).map fun j => ⟨136, [vB j], .bool true⟩), (5, [⟨5, [], .bool true⟩])]

noncomputable def fn3 : Func := match env.ft.get 3 with | some f => f | none => default
def sl : Code → Code | .seq a _ => a | c => c
def sr : Code → Code | .seq _ b => b | c => c
def bl : Code → Code | .block _ a => a | c => c
def lp : Code → Code | .loop a => a | c => c
noncomputable def body0 : Code := match fn3.body with | some c => c | none => .skip
noncomputable def dC (n : Nat) : Code := Nat.rec body0 (fun _ c => sr c) n
/-- the pieces: the first loop's (its test, the element read, the test of it, the counter); between the loops; the second loop's round; behind it -/
noncomputable def cA0 : Code := sl (dC 0)
noncomputable def cA1 : Code := sl (sl (dC 1))
noncomputable def cA : Code := lp (bl (sr (sl (dC 1))))
noncomputable def preB : List Code := [sl (dC 2), sl (dC 3), sl (dC 4), sl (dC 5), sl (dC 6)]
noncomputable def cP : Code := sl (sl (dC 7))
noncomputable def cB : Code := lp (bl (sr (sl (dC 7))))
noncomputable def cR : Code := sr (dC 7)
noncomputable def LL : Lv := lvOf env fn3
noncomputable def cl (c : Code) : KC := cCode env 300 LL fn3.ntmps 3 c
noncomputable def rcB : Rec := evSg env gsB [] 300 99

abbrev liveB : Nat := 348470411374974860551753799921113264848885
/-- the temporaries that are kept: 0, 5, 9, 10; behind the loop: 5, 9 -/
abbrev keepB : Nat := 1569
abbrev keepX : Nat := 544
def restB : List Nat := [2, 4, 6, 7, 8, 11, 12, 13, 14, 30, 48, 86, 90, 124, 138]
def restX : List Nat := [0, 10] ++ restB

noncomputable def blocksB : List (Nat × HO) := [(1, .row [.i64 0, .i64 1, .i64 0, .i64 0, .i64 20, .i64 5, .i64 20, .i64 0, .i64 0, .i64 0, .niliface, .ptr 2 0, .ptr 3 0, .nilslice, .i64 0, .i64 0, .i64 0, .nilslice, .nilslice] 0),
    (3, .row [.slice 7 0 1 1, .map 8] 0),
    (5, .row [.i64 7, .i64 2, .str [], .i64 7, .i64 4, .str [], .i64 7, .i64 6, .str [], .i64 7, .i64 8, .str [], .i64 7, .i64 10, .str [], .i64 7, .i64 12, .str [], .i64 7, .i64 14, .str [], .i64 7, .i64 16, .str [], .i64 7, .i64 18, .str [], .i64 7, .i64 20, .str [], .i64 7, .i64 22, .str [], .i64 7, .i64 24, .str [], .i64 7, .i64 26, .str [], .i64 7, .i64 28, .str [], .i64 7, .i64 30, .str [], .i64 7, .i64 32, .str [], .i64 7, .i64 34, .str [], .i64 7, .i64 36, .str [], .i64 9, .i64 38, .str [], .i64 9, .i64 40, .str [], .i64 7, .i64 42, .str []] 3),
    (6, .row [.map 29] 0),
    (7, .row [.i64 (-1), .i64 0, .i64 0, .str [], .i64 0, .i64 0] 0),
    (8, .map [] 0),
    (9, .row [.i64 1, .i64 0, .str []] 3),
    (10, .row [.i64 7, .i64 2, .str []] 3),
    (11, .row [.i64 7, .i64 2, .str []] 3),
    (12, .row [.i64 7, .i64 2, .str []] 3),
    (13, .row [.i64 7, .i64 8, .str []] 3),
    (14, .row [.i64 7, .i64 2, .str []] 3),
    (15, .row [.i64 7, .i64 12, .str []] 3),
    (16, .row [.i64 7, .i64 12, .str []] 3),
    (17, .row [.i64 7, .i64 12, .str []] 3),
    (18, .row [.i64 7, .i64 2, .str []] 3),
    (19, .row [.i64 7, .i64 2, .str []] 3),
    (20, .row [.i64 7, .i64 2, .str []] 3),
    (21, .row [.i64 7, .i64 2, .str []] 3),
    (22, .row [.i64 7, .i64 2, .str []] 3),
    (23, .row [.i64 7, .i64 2, .str []] 3),
    (24, .row [.i64 7, .i64 2, .str []] 3),
    (25, .row [.i64 7, .i64 8, .str []] 3),
    (26, .row [.i64 7, .i64 2, .str []] 3),
    (27, .row [.i64 7, .i64 10, .str []] 3)]

def oldB : List AV := [.i64 1, .i64 0, .i64 17, .i64 1, .gslice 9 0 1 0, .nilslice, .i64 1, .i64 0, .i64 17, .i64 1, .gslice 10 0 1 0, .nilslice, .i64 1, .i64 0, .i64 17, .i64 1, .gslice 11 0 1 0, .nilslice, .i64 1, .i64 0, .i64 17, .i64 1, .gslice 12 0 1 0, .nilslice, .i64 1, .i64 0, .i64 17, .i64 1, .gslice 13 0 1 0, .nilslice, .i64 1, .i64 0, .i64 17, .i64 1, .gslice 14 0 1 0, .nilslice, .i64 1, .i64 0, .i64 17, .i64 1, .gslice 15 0 1 0, .nilslice, .i64 1, .i64 0, .i64 17, .i64 1, .gslice 16 0 1 0, .nilslice, .i64 1, .i64 0, .i64 17, .i64 1, .gslice 17 0 1 0, .nilslice, .i64 1, .i64 0, .i64 17, .i64 1, .gslice 18 0 1 0, .nilslice, .i64 1, .i64 0, .i64 17, .i64 1, .gslice 19 0 1 0, .nilslice, .i64 1, .i64 0, .i64 17, .i64 1, .gslice 20 0 1 0, .nilslice, .i64 1, .i64 0, .i64 17, .i64 1, .gslice 21 0 1 0, .nilslice, .i64 1, .i64 0, .i64 17, .i64 1, .gslice 22 0 1 0, .nilslice, .i64 1, .i64 0, .i64 17, .i64 1, .gslice 23 0 1 0, .nilslice, .i64 1, .i64 0, .i64 17, .i64 1, .gslice 24 0 1 0, .nilslice, .i64 1, .i64 0, .i64 17, .i64 1, .gslice 25 0 1 0, .nilslice, .i64 1, .i64 0, .i64 1, .i64 1, .gslice 26 0 1 0, .nilslice, .i64 11, .i64 0, .i64 0, .i64 1, .nilslice, .nilslice, .i64 11, .i64 0, .i64 0, .i64 1, .nilslice, .nilslice, .i64 6, .i64 0, .i64 1, .i64 1, .gslice 27 0 1 0, .gslice 28 0 2 0]

/-- the last collection of both generations was behind so many rounds -/
def majB (i : Nat) : Nat := i - (i + 2) % 3
def ageB (m : Nat) : Int := match m % 6 with | 1 => 1 | _ => 0
def refB (i : Nat) : Int := match i % 6 with | 1 => 44 | 4 => 44 | 0 => 3 | _ => 1
def clockB (i : Nat) : Nat := 5 * ((i - 1) / 6) + (match (i - 1) % 6 with | 0 => 0 | 1 => 1 | 2 => 2 | 3 => 2 | 4 => 4 | _ => 4)
def boxB (age : Int) (b n : Nat) : List AV := [.i64 11, .i64 0, .i64 0, .i64 age, .nilslice, .gslice b 0 n 0]
/-- the young cells: their row, what lies in the boxes -/
def youngB (i : Nat) : AV × List (Nat × HO) :=
  match i % 6 with
  | 1 => (.nilslice, [])
  | 4 => (.nilslice, [])
  | 0 => (.gslice 31 0 2 0, [(31, .row (boxB 1 32 (i - 1) ++ boxB 0 33 i) 6), (32, .row (valsB (i - 1)) 3), (33, .row (valsB i) 3)])
  | 2 => (.gslice 31 0 1 0, [(31, .row (boxB 0 32 i) 6), (32, .row (valsB i) 3)])
  | _ => (.gslice 31 0 1 0, [(31, .row (boxB 1 32 i) 6), (32, .row (valsB i) 3)])

noncomputable def entsI (i : Nat) : List (Nat × HO) :=
  (2, .row [(youngB i).1, .gslice 4 0 22 0, .gslice 5 0 21 0, .nilslice, .ptr 6 0] 0) ::
  (4, .row (oldB ++ boxB (ageB (majB i)) 30 (majB i)) 6) ::
  (28, .row [.i64 3, .i64 0, .str [], .i64 9, .i64 (refB i), .str []] 3) ::
  (29, .map (match i % 3 with | 1 => [] | _ => [⟨.i64 42, .bool true, clockB i - 1⟩]) (clockB i)) ::
  (30, .row (valsB (majB i)) 3) :: ((youngB i).2 ++ blocksB)

noncomputable def ents0 : List (Nat × HO) := [(1, .row [.i64 0, .i64 1, .i64 0, .i64 0, .i64 20, .i64 5, .i64 20, .i64 0, .i64 0, .i64 0, .niliface, .ptr 2 0, .ptr 3 0, .nilslice, .i64 0, .i64 0, .i64 0, .nilslice, .nilslice] 0),
    (2, .row [.gslice 4 0 21 0, .nilslice, .gslice 5 0 21 0, .nilslice, .ptr 6 0] 0),
    (3, .row [.slice 7 0 1 1, .map 8] 0),
    (4, .row [.i64 1, .i64 0, .i64 17, .i64 0, .gslice 9 0 1 0, .nilslice, .i64 1, .i64 0, .i64 17, .i64 0, .gslice 10 0 1 0, .nilslice, .i64 1, .i64 0, .i64 17, .i64 0, .gslice 11 0 1 0, .nilslice, .i64 1, .i64 0, .i64 17, .i64 0, .gslice 12 0 1 0, .nilslice, .i64 1, .i64 0, .i64 17, .i64 0, .gslice 13 0 1 0, .nilslice, .i64 1, .i64 0, .i64 17, .i64 0, .gslice 14 0 1 0, .nilslice, .i64 1, .i64 0, .i64 17, .i64 0, .gslice 15 0 1 0, .nilslice, .i64 1, .i64 0, .i64 17, .i64 0, .gslice 16 0 1 0, .nilslice, .i64 1, .i64 0, .i64 17, .i64 0, .gslice 17 0 1 0, .nilslice, .i64 1, .i64 0, .i64 17, .i64 0, .gslice 18 0 1 0, .nilslice, .i64 1, .i64 0, .i64 17, .i64 0, .gslice 19 0 1 0, .nilslice, .i64 1, .i64 0, .i64 17, .i64 0, .gslice 20 0 1 0, .nilslice, .i64 1, .i64 0, .i64 17, .i64 0, .gslice 21 0 1 0, .nilslice, .i64 1, .i64 0, .i64 17, .i64 0, .gslice 22 0 1 0, .nilslice, .i64 1, .i64 0, .i64 17, .i64 0, .gslice 23 0 1 0, .nilslice, .i64 1, .i64 0, .i64 17, .i64 0, .gslice 24 0 1 0, .nilslice, .i64 1, .i64 0, .i64 17, .i64 0, .gslice 25 0 1 0, .nilslice, .i64 1, .i64 0, .i64 1, .i64 0, .gslice 26 0 1 0, .nilslice, .i64 11, .i64 0, .i64 0, .i64 0, .nilslice, .nilslice, .i64 11, .i64 0, .i64 0, .i64 0, .nilslice, .nilslice, .i64 6, .i64 0, .i64 1, .i64 0, .gslice 27 0 1 0, .gslice 28 0 2 0] 6),
    (5, .row [.i64 7, .i64 1, .str [], .i64 7, .i64 3, .str [], .i64 7, .i64 5, .str [], .i64 7, .i64 7, .str [], .i64 7, .i64 9, .str [], .i64 7, .i64 11, .str [], .i64 7, .i64 13, .str [], .i64 7, .i64 15, .str [], .i64 7, .i64 17, .str [], .i64 7, .i64 19, .str [], .i64 7, .i64 21, .str [], .i64 7, .i64 23, .str [], .i64 7, .i64 25, .str [], .i64 7, .i64 27, .str [], .i64 7, .i64 29, .str [], .i64 7, .i64 31, .str [], .i64 7, .i64 33, .str [], .i64 7, .i64 35, .str [], .i64 9, .i64 37, .str [], .i64 9, .i64 39, .str [], .i64 7, .i64 41, .str []] 3),
    (6, .row [.map 29] 0),
    (7, .row [.i64 (-1), .i64 0, .i64 0, .str [], .i64 0, .i64 0] 0),
    (8, .map [] 0),
    (9, .row [.i64 1, .i64 0, .str []] 3),
    (10, .row [.i64 7, .i64 1, .str []] 3),
    (11, .row [.i64 7, .i64 1, .str []] 3),
    (12, .row [.i64 7, .i64 1, .str []] 3),
    (13, .row [.i64 7, .i64 7, .str []] 3),
    (14, .row [.i64 7, .i64 1, .str []] 3),
    (15, .row [.i64 7, .i64 11, .str []] 3),
    (16, .row [.i64 7, .i64 11, .str []] 3),
    (17, .row [.i64 7, .i64 11, .str []] 3),
    (18, .row [.i64 7, .i64 1, .str []] 3),
    (19, .row [.i64 7, .i64 1, .str []] 3),
    (20, .row [.i64 7, .i64 1, .str []] 3),
    (21, .row [.i64 7, .i64 1, .str []] 3),
    (22, .row [.i64 7, .i64 1, .str []] 3),
    (23, .row [.i64 7, .i64 1, .str []] 3),
    (24, .row [.i64 7, .i64 1, .str []] 3),
    (25, .row [.i64 7, .i64 7, .str []] 3),
    (26, .row [.i64 7, .i64 1, .str []] 3),
    (27, .row [.i64 7, .i64 9, .str []] 3),
    (28, .row [.i64 3, .i64 0, .str [], .i64 0, .i64 0, .str []] 3),
    (29, .map [] 0)]

noncomputable def entsB (i : Nat) : List (Nat × HO) := match i with | 0 => ents0 | i => entsI i
abbrev nextB : Nat := 34

def opqs (l : List Nat) : List (Nat × AV) := l.map fun t => (t, .opq (.var t))
def tmB (l i : AV) : List (Nat × AV) := [(0, l), (5, .ptr 1 0), (9, .i64 20), (10, i)]
def sliceB0 : AV := .uslice 0 999 0 0 most

/-- in front of round i -/
noncomputable def hd (i : Nat) : Hd := ⟨tmB sliceB0 (.i64 i) ++ opqs restB, entsB i, nextB, []⟩
/-- of the slice it is known that it is no longer -/
noncomputable def hdN (i : Nat) : Hd := ⟨tmB (.uslice 0 999 0 0 i) (.i64 i) ++ opqs restB, entsB i, nextB, []⟩
/-- its first i + 1 elements are known -/
noncomputable def hdV (i : Nat) : Hd := (hd i).add 0 0 (i + 1) most (valsB (i + 1))
/-- behind the loop -/
noncomputable def hx (i : Nat) : Hd := ⟨[(5, .ptr 1 0), (9, .i64 20)] ++ opqs restX, entsB i, nextB, []⟩

noncomputable def kr : KT := resK env fn3 fun v => sameV v (.bool true)
/-- between the loops: what is known of the slice is that it has at most 50 elements -/
def tmP : List (Nat × AV) := [(0, .uslice 0 999 0 0 50)]
noncomputable def preRun : Bool := runL cl rcB preB (runL cl rcB [cP] (fit keepB 147 (hd 0))) (putVs tmP .nil) [] ⟨.nil, 0, [], []⟩
noncomputable def roundB (i : Nat) : Bool := (cl cB).run rcB none (hdV i).tmT [] (hdV i).heap (fit keepB 147 (hd (i + 1))) (fun _ => noK) noK
noncomputable def keX (i : Nat) : Nat → KT := fun id => match id with | 2 => fit keepX 147 (hx i) | _ => noK
noncomputable def exitB (i : Nat) : Bool := (cl cB).run rcB none (hdN i).tmT [] (hdN i).heap noK (keX i) noK
noncomputable def lastB (i : Nat) : Bool := (cl cR).run rcB none (hx i).tmT [] (hx i).heap noK (fun _ => noK) kr

end Go.Proofs.YtnkjembkhjellaaGreatDoor
