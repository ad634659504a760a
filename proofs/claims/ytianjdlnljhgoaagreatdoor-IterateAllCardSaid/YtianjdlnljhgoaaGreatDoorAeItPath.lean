/-
  IterateAll: the statement's own code behind its test, and what it finds (a path: so many steps that go on, then a last one).
-/
import Derived.Test.YtianjdlnljhgoaaGreatDoorAeItDef
import Derived.Test.YtianjdlnljhgoaaGreatDoorAeLives
import Derived.Test.YtianjdlnljhgoaaGreatDoorAeKit4
namespace Go.Proofs.YtianjdlnljhgoaaGreatDoor
open Go.AE
set_option maxRecDepth 100000
noncomputable section

def fn3 : Func := match env.ft.get 3 with | some f => f | none => default
def sl : Code → Code | .seq a _ => a | c => c
def sr : Code → Code | .seq _ b => b | c => c
def body3 : Code := match fn3.body with | some c => c | none => .skip
/-- behind the test -/
def restC : Code := sr (sr (sr body3))

/-- the last step: done, a throw, no object -/
def lastA (k : Nat) : List AV := [.i64 0, .bool true, .i64 3, .sint .i64 (.var (10 + k)) (-9007199254740992) 9007199254740992, .str []]
def lastB (k : Nat) : List AV := [.i64 1, .opq (.isIn (.var 3) [1]), .i64 3, .sint .i64 (.var (10 + k)) (-9007199254740992) 9007199254740992, .str []]
def kindC : AV := .sint .i64 (.var 9) (-9223372036854775808) 9223372036854775807
def lastC (k : Nat) : List AV := [kindC, .opq (.isIn (.var 3) [1]), .i64 3, .sint .i64 (.var (10 + k)) (-9007199254740992) 9007199254740992, .str []]
def rowP (l : List AV) : AObj := .held (ofListV l) l.length false

def opqs : List AV := [.opq (.isIn (.var 1) [1]), .i64 3, .sint .i64 (.var 2) (-9007199254740992) 9007199254740992, .str [], .sint .i64 (.var 4) (-9223372036854775808) 9223372036854775807, .opq (.isIn (.var 5) [1]), .i64 3, .sint .i64 (.var 6) (-9007199254740992) 9007199254740992, .str []]
def planP (m n r k : AV) (U : AV) : List AV := m :: n :: r :: k :: (opqs ++ [U])
def planR (r : Nat) (U : AV) : List AV := planP (.i64 0) (.i64 0) (.i64 (.ofNat r)) (.i64 0) U

def tmP (p : List AV) : T AV := putVs [(0, .agg p), (1, .ptr 2 0), (2, .bool false), (3, .ptr 11 0), (9, .ptr 11 0), (10, .agg p), (11, .bool true), (12, .bool false), (13, .bool false), (14, .ptr 11 0), (15, .bool false), (16, .bool false)] .nil
def heapP (p : List AV) (row : List (Nat × AObj)) (pr : List Nat) : H := ⟨putAll ((2, rowObj p 0) :: (row ++ madeS.new)) .nil, 600, [], pr⟩
def livesK : List Known := [⟨6, [], .bool true⟩]

def noK' : KT := fun _ _ _ => false
def runP (E : Env) (ss : List Sum) (p : List AV) (row : List (Nat × AObj)) (pr : List Nat) : Bool :=
  (cCode E 300 (lvOf E fn3) fn3.ntmps 3 restC).run (evSm E livesK ss 300 99) none (tmP p) [] (heapP p row pr) noK' (fun _ => noK') (resK E fn3 fun v => sameV v (.bool true))

/-- what is known of another kind of step -/
def orcC : List Orc := [.bin .eql kindC (.i64 1) (.bool false), .bin .neq kindC (.i64 0) (.bool true), .bin .eql kindC (.i64 0) (.bool false)]
def envC : Env := envO env [] orcC

def nxt (r : Nat) : Nat → AV → AObj → Sum := match r with | 0 => nxt0 | 1 => nxt1 | 2 => nxt2 | _ => nxt3
def tck (r : Nat) : Nat → Sum := match r with | 0 => tck0 | 1 => tck1 | 2 => tck2 | _ => tck3
def setS (r : Nat) : AV → Sum := match r with | 0 => setS0 | 1 => setS1 | 2 => setS2 | _ => setS3
def openS (r : Nat) : AV → Sum := match r with | 0 => openS0 | 1 => openS1 | 2 => openS2 | _ => openS3
def sumsP (r k : Nat) (U : AV) (R : AObj) : List Sum := setS r U :: openS r U :: ((List.range k).map (fun i => nxt r i U R) ++ [tck r k])

/-- the slice behind k steps that go on: there are more; there are none -/
def pathX (E : Env) (r k : Nat) (last : List AV) : Bool := runP E (sumsP r k (us (k + 1)) (rowP (goOn k ++ last))) (planR r (us (k + 1))) [(1, rowP (goOn k ++ last))] [1]
def uEnd (k : Nat) : AV := .uslice 0 1 0 k k
def pathD (r k : Nat) : Bool := runP env (sumsP r k (uEnd k) (rowP (goOn k))) (planR r (uEnd k)) (match k with | 0 => [] | _ => [(1, rowP (goOn k))]) (match k with | 0 => [] | _ => [1])

end
end Go.Proofs.YtianjdlnljhgoaaGreatDoor
