/-
  The heads of the loop of GeneratorEnded: the state after m results were allocated, in front of round i.
-/
import Derived.Test.YthjlmclljakobaaGreatAeMay
import Derived.Test.YthjlmclljakobaaGreatAeGoes
import Derived.Test.YthjlmclljakobaaGreatAeEndNew
import Derived.Test.YthjlmclljakobaaGreatAeLoop
namespace Go.Proofs.YthjlmclljakobaaGreat
open Go.AE
set_option maxRecDepth 100000

/-- what is known of the lengths of the two values -/
noncomputable def FS : List (SX × Int × Int) := [(.bin .add .i64 (.len 0) (.len 1), 0, 1000)]
noncomputable def EE : Env := envF FS
def good : Cl := ⟨0, 5, 0, 1000, true⟩
noncomputable def knE : List Known := [⟨4, [good.av 0], .bool true⟩, ⟨4, [good.av 1], .bool true⟩, ⟨5, [], .bool true⟩, ⟨130, [good.av 0], .bool true⟩, ⟨130, [good.av 1], .bool true⟩]

noncomputable def fn3 : Func := match EE.ft.get 3 with | some f => f | none => default
def sl : Code → Code | .seq a _ => a | c => c
def sr : Code → Code | .seq _ b => b | c => c
def bl : Code → Code | .block _ a => a | c => c
def lp : Code → Code | .loop a => a | c => c
noncomputable def body0 : Code := match fn3.body with | some c => c | none => .skip
noncomputable def dC (n : Nat) : Code := Nat.rec body0 (fun _ c => sr c) n
/-- the pieces: in front of the loop, its test, the value, the round, the counter, behind it -/
noncomputable def pre : List Code := [sl (dC 0), sl (dC 1), sl (dC 2), sl (dC 3), sl (dC 4), sl (dC 5), sl (dC 6), sl (dC 7)]
noncomputable def cP8 : Code := sl (sl (dC 8))
noncomputable def cB : Code := lp (bl (sr (sl (dC 8))))
noncomputable def cR : Code := sr (dC 8)
noncomputable def cA1 : Code := sl cB
noncomputable def cR15 : Code := sl (bl (sl (sr cB)))
noncomputable def cSW : Code := sr (bl (sl (sr cB)))
noncomputable def cR14 : Code := sr (sr cB)
noncomputable def LL : Lv := lvOf EE fn3
noncomputable def cl (c : Code) : KC := cCode EE 300 LL fn3.ntmps 3 c
noncomputable def rcP : Rec := evSm EE knE [qEnd] 300 99
noncomputable def rcE : Rec := evSm EE knE [] 300 99

/-- the temporaries that are kept at a head, in a round, behind the loop; all others -/
abbrev liveE : Nat := 2854626085742948480255611523372210040533433823
abbrev keepM : Nat := 13460
abbrev keepV : Nat := 649037107316853453566312041165972
abbrev keepX : Nat := 5248
def restM : List Nat := [0, 1, 3, 6, 8, 11, 41, 50, 89, 103, 109, 123, 124, 135, 136, 151]
def restX : List Nat := [2, 4, 13] ++ restM

noncomputable def blocks : List (Nat × HO) := [(1, .row [] 0),
    (2, .map [] 0),
    (3, .row [.map 2] 0),
    (5, .map [⟨.agg [.i64 0, .i64 1, .i64 0, .str [108, 101, 110, 103, 116, 104], .i64 4], .i64 1, 0⟩, ⟨.agg [.i64 1, .i64 1, .i64 0, .str [110, 97, 109, 101], .i64 4], .i64 2, 1⟩, ⟨.agg [.i64 2, .i64 1, .i64 0, .str [112, 114, 111, 116, 111, 116, 121, 112, 101], .i64 1], .i64 3, 2⟩, ⟨.agg [.i64 0, .i64 1, .i64 0, .str [118, 97, 108, 117, 101], .i64 7], .i64 4, 3⟩, ⟨.agg [.i64 4, .i64 1, .i64 0, .str [100, 111, 110, 101], .i64 7], .i64 5, 4⟩] 5),
    (6, .row [.gslice 37 0 6 0, .map 5] 0),
    (8, .row [.i64 1, .i64 0, .str []] 3),
    (9, .row [.i64 7, .i64 1, .str []] 3),
    (10, .row [.i64 7, .i64 1, .str []] 3),
    (11, .row [.i64 7, .i64 1, .str []] 3),
    (12, .row [.i64 7, .i64 7, .str []] 3),
    (13, .row [.i64 7, .i64 1, .str []] 3),
    (14, .row [.i64 7, .i64 11, .str []] 3),
    (15, .row [.i64 7, .i64 11, .str []] 3),
    (16, .row [.i64 7, .i64 11, .str []] 3),
    (17, .row [.i64 7, .i64 1, .str []] 3),
    (18, .row [.i64 7, .i64 1, .str []] 3),
    (19, .row [.i64 7, .i64 1, .str []] 3),
    (20, .row [.i64 7, .i64 1, .str []] 3),
    (21, .row [.i64 7, .i64 1, .str []] 3),
    (22, .row [.i64 7, .i64 1, .str []] 3),
    (23, .row [.i64 7, .i64 1, .str []] 3),
    (24, .row [.i64 7, .i64 7, .str []] 3),
    (25, .row [.i64 7, .i64 1, .str []] 3),
    (26, .row [.ptr 7 0] 0),
    (27, .row [.i64 7, .i64 3, .str [], .i64 3, .i64 2, .str [], .i64 5, .i64 0, .str [115, 101, 118, 101, 110], .i64 7, .i64 43, .str []] 3),
    (28, .row [.i64 3, .i64 7, .str [], .i64 0, .i64 0, .str [], .i64 8, .i64 0, .str []] 3),
    (29, .row [.i64 7, .i64 47, .str []] 0),
    (30, .row [.i64 3, .i64 0, .str [], .i64 3, .i64 7, .str [], .sint .i64 (.var 0) 0 5, .sint .i64 (.var 1) (-9223372036854775808) 9223372036854775807, .sstr 0 0 1000, .i64 0, .i64 0, .str [], .i64 0, .i64 0, .str [], .i64 0, .i64 0, .str []] 3),
    (31, .row [.i64 8, .i64 0, .i64 0, .str [], .str [115, 101, 118, 101, 110], .i64 2, .i64 1, .i64 0, .str [112, 114, 111, 116, 111, 116, 121, 112, 101], .str []] 5),
    (32, .row [.i64 7, .i64 1, .str [], .i64 7, .i64 3, .str [], .i64 7, .i64 5, .str [], .i64 7, .i64 7, .str [], .i64 7, .i64 9, .str [], .i64 7, .i64 11, .str [], .i64 7, .i64 13, .str [], .i64 7, .i64 15, .str [], .i64 7, .i64 17, .str [], .i64 7, .i64 19, .str [], .i64 7, .i64 21, .str [], .i64 7, .i64 23, .str [], .i64 7, .i64 25, .str [], .i64 7, .i64 27, .str [], .i64 7, .i64 29, .str [], .i64 7, .i64 31, .str [], .i64 7, .i64 33, .str [], .i64 7, .i64 35, .str [], .i64 9, .i64 37, .str [], .i64 9, .i64 39, .str [], .i64 7, .i64 1, .str [], .i64 7, .i64 3, .str [], .i64 7, .i64 5, .str [], .i64 7, .i64 7, .str [], .i64 7, .i64 9, .str [], .i64 7, .i64 11, .str [], .i64 7, .i64 13, .str [], .i64 7, .i64 15, .str [], .i64 7, .i64 17, .str [], .i64 7, .i64 19, .str [], .i64 7, .i64 21, .str [], .i64 7, .i64 23, .str [], .i64 7, .i64 25, .str [], .i64 7, .i64 27, .str [], .i64 7, .i64 29, .str [], .i64 7, .i64 31, .str [], .i64 7, .i64 33, .str [], .i64 7, .i64 35, .str [], .i64 7, .i64 41, .str [], .i64 0, .i64 0, .str [], .sint .i64 (.var 0) 0 5, .sint .i64 (.var 1) (-9223372036854775808) 9223372036854775807, .sstr 0 0 1000, .i64 9, .i64 45, .str []] 3),
    (33, .row [.i64 7, .i64 9, .str []] 3),
    (34, .row [.i64 7, .i64 43, .str []] 3),
    (35, .row [.i64 3, .i64 3, .str [], .i64 0, .i64 0, .str []] 3),
    (37, .row [.i64 (-1), .i64 0, .i64 0, .str [], .i64 0, .i64 0, .i64 0, .i64 1, .i64 0, .str [108, 101, 110, 103, 116, 104], .i64 4, .i64 1, .i64 1, .i64 1, .i64 0, .str [110, 97, 109, 101], .i64 4, .i64 2, .i64 2, .i64 1, .i64 0, .str [112, 114, 111, 116, 111, 116, 121, 112, 101], .i64 1, .i64 3, .i64 0, .i64 1, .i64 0, .str [118, 97, 108, 117, 101], .i64 7, .i64 1, .i64 4, .i64 1, .i64 0, .str [100, 111, 110, 101], .i64 7, .i64 2] 6),
    (38, .row [.i64 7, .i64 1, .str [], .sint .i64 (.var 0) 0 5, .sint .i64 (.var 1) (-9223372036854775808) 9223372036854775807, .sstr 0 0 1000, .i64 2, .i64 1, .str []] 3)]

def cellsE : List AV := [.i64 1, .i64 0, .i64 17, .i64 0, .gslice 8 0 1 0, .nilslice, .i64 1, .i64 0, .i64 17, .i64 0, .gslice 9 0 1 0, .nilslice, .i64 1, .i64 0, .i64 17, .i64 0, .gslice 10 0 1 0, .nilslice, .i64 1, .i64 0, .i64 17, .i64 0, .gslice 11 0 1 0, .nilslice, .i64 1, .i64 0, .i64 17, .i64 0, .gslice 12 0 1 0, .nilslice, .i64 1, .i64 0, .i64 17, .i64 0, .gslice 13 0 1 0, .nilslice, .i64 1, .i64 0, .i64 17, .i64 0, .gslice 14 0 1 0, .nilslice, .i64 1, .i64 0, .i64 17, .i64 0, .gslice 15 0 1 0, .nilslice, .i64 1, .i64 0, .i64 17, .i64 0, .gslice 16 0 1 0, .nilslice, .i64 1, .i64 0, .i64 17, .i64 0, .gslice 17 0 1 0, .nilslice, .i64 1, .i64 0, .i64 17, .i64 0, .gslice 18 0 1 0, .nilslice, .i64 1, .i64 0, .i64 17, .i64 0, .gslice 19 0 1 0, .nilslice, .i64 1, .i64 0, .i64 17, .i64 0, .gslice 20 0 1 0, .nilslice, .i64 1, .i64 0, .i64 17, .i64 0, .gslice 21 0 1 0, .nilslice, .i64 1, .i64 0, .i64 17, .i64 0, .gslice 22 0 1 0, .nilslice, .i64 1, .i64 0, .i64 17, .i64 0, .gslice 23 0 1 0, .nilslice, .i64 1, .i64 0, .i64 17, .i64 0, .gslice 24 0 1 0, .nilslice, .i64 1, .i64 0, .i64 1, .i64 0, .gslice 25 0 1 0, .nilslice, .i64 11, .i64 0, .i64 0, .i64 0, .nilslice, .nilslice, .i64 11, .i64 0, .i64 0, .i64 0, .nilslice, .nilslice, .i64 3, .i64 3, .i64 1, .i64 0, .gslice 27 0 4 0, .gslice 28 0 3 0, .i64 1, .i64 0, .i64 17, .i64 0, .gslice 33 0 1 0, .nilslice, .i64 11, .i64 0, .i64 0, .i64 0, .nilslice, .gslice 30 0 6 0, .i64 6, .i64 0, .i64 1, .i64 0, .gslice 34 0 1 0, .gslice 35 0 2 0, .i64 1, .i64 5, .i64 1, .i64 0, .gslice 38 0 3 0, .nilslice]

def cellJ (j : Nat) : List AV := [.i64 1, .i64 5, .i64 1, .i64 0, .gslice (39 + j) 0 3 0, .nilslice]
/-- after m results -/
noncomputable def entsX (m : Nat) : List (Nat × HO) :=
  (4, .row [.gslice 36 0 (25 + m) 0, .nilslice, .slice 32 0 38 38, .nilslice, .ptr 3 0] 0) ::
  (7, .row [.i64 1, .i64 (4 + m), .i64 0, .i64 0, .i64 20, .i64 5, .i64 200, .i64 0, .i64 0, .i64 0, .iface 38 (.agg [.slice 1 0 13 13]), .ptr 4 0, .ptr 6 0, .nilslice, .i64 0, .i64 0, .i64 0, .gslice 31 0 2 0, .nilslice] 0) ::
  (36, .row (cellsE ++ (List.range m).flatMap cellJ) 6) :: ((List.range m).map fun j => (39 + j, HO.row [] 3)) ++ blocks

noncomputable def entsE (m : Nat) : List (Nat × HO) := (0, .row [.sint .i64 (.var 2) 0 5, .sint .i64 (.var 3) (-9223372036854775808) 9223372036854775807, .sstr 1 0 1000] 0) :: entsX m

def opqs (l : List Nat) : List (Nat × AV) := l.map fun t => (t, .opq t)
def tmE (kinds i : AV) : List (Nat × AV) := [(2, kinds), (4, .ptr 0 0), (7, .ptr 26 0), (10, .ptr 29 0), (12, .i64 2), (13, i)]
def kindsE : AV := .uslice 0 999 0 0 most

/-- in front of round i -/
noncomputable def hd (m i : Nat) : Hd := ⟨tmE kindsE (.i64 i) ++ opqs restM, entsE m, 39 + m, []⟩
/-- of kinds more is known: of what length it is at most -/
noncomputable def hdN (m i : Nat) : Hd := ⟨tmE (.uslice 0 999 0 0 i) (.i64 i) ++ opqs restM, entsE m, 39 + m, []⟩
/-- its value is read -/
noncomputable def hb (m i : Nat) : Hd := ⟨tmE kindsE (.i64 i) ++ [(109, .sint .i64 (.var (10 + i)) lo64 hi64)], entsE m, 39 + m, []⟩
/-- the value's class -/
noncomputable def clsE (c : Nat) : AV := match c with | 0 => .i64 1 | 1 => .i64 2 | 2 => .sint .i64 (.var 1001) lo64 0 | _ => .sint .i64 (.var 1001) 3 hi64
noncomputable def hs (m c : Nat) : Hd := ⟨tmE kindsE (.sint .i64 (.var 1000) 0 19) ++ (opqs restM ++ [(109, clsE c)]), entsE m, 39 + m, []⟩
/-- behind the round -/
noncomputable def he (m : Nat) : Hd := ⟨tmE kindsE (.sint .i64 (.bin .add .i64 (.var 1000) (.con 1)) 1 20), entsE m, 39 + m, []⟩
/-- behind the loop -/
noncomputable def hx (m : Nat) : Hd := ⟨[(7, .ptr 26 0), (10, .ptr 29 0), (12, .i64 2)] ++ opqs restX, entsX m, 39 + m, []⟩

noncomputable def argsE : List AV := [good.av 0, good.av 1, kindsE]
noncomputable def kr : KT := resK EE fn3 fun v => sameV v (.bool true)

/-- the elements that are known in round i -/
def valsE (n : Nat) : List AV := (List.range n).map fun j => .sint .i64 (.var (10 + j)) lo64 hi64
noncomputable def hdV (m i : Nat) : Hd := (hd m i).add 2 0 (i + 1) most (valsE (i + 1))
noncomputable def hdL (m : Nat) : Hd := (hd m 20).add 2 0 21 most []

noncomputable def preB : Bool := runL cl rcP pre (runL cl rcP [cP8] (fit keepM 180 (hd 0 0))) (ofListV argsE) [] ⟨.nil, 0, [], []⟩
noncomputable def enterB (m i : Nat) : Bool := (cl cA1).run rcE none (hdV m i).tmT [] (hdV m i).heap (runL cl rcE [cR15] (fit keepV 180 (hb m i))) (fun _ => noK) noK
noncomputable def keX (m : Nat) : Nat → KT := fun id => match id with | 0 => fit keepX 180 (hx m) | _ => noK
noncomputable def exitB (m i : Nat) : Bool := (cl cA1).run rcE none (hdN m i).tmT [] (hdN m i).heap noK (keX m) noK
noncomputable def lastE (m : Nat) : Bool := (cl cA1).run rcE none (hdL m).tmT [] (hdL m).heap noK (keX m) noK
noncomputable def roundB (m c : Nat) : Bool := (cl cSW).run rcE none (hs m c).tmT [] (hs m c).heap (runL cl rcE [cR14] (fit keepM 180 (he (match c with | 0 => m | _ => m + 1)))) (fun _ => noK) noK
noncomputable def restB (m : Nat) : Bool := (cl cR).run rcE none (hx m).tmT [] (hx m).heap noK (fun _ => noK) kr

end Go.Proofs.YthjlmclljakobaaGreat
