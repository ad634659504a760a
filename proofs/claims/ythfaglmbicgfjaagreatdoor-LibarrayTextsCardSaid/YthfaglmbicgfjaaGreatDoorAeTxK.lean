/-
  The law LibarrayTexts: the values of its runs, and what is known of single operations.
-/
import Derived.Test.YthfaglmbicgfjaaGreatDoorAeTxIdx
namespace Go.Proofs.YthfaglmbicgfjaaGreatDoor
open Go.AE
set_option maxRecDepth 100000

noncomputable def aL : AV := .sint .i64 (.len 0) 0 200
noncomputable def eI : SX := .bin .rem .u64 (.conv .u64 (.var 0)) (.bin .add .i64 (.len 0) (.con 1))
noncomputable def aI : AV := .sint .i64 eI 0 200
noncomputable def eD : SX := .bin .add .i64 (.bin .sub .i64 (.len 0) eI) (.con 1)
noncomputable def eR : SX := .bin .rem .u64 (.conv .u64 (.var 1)) eD
noncomputable def eJ : SX := .bin .add .i64 eI eR
noncomputable def aJ : AV := .sint .i64 eJ 0 200
noncomputable def aRL : AV := .sint .i64 (.bin .add .i64 (.var 2) (.len 3)) 0 400
noncomputable def aI1 : AV := .sint .i64 (.bin .add .i64 eI (.con 1)) 1 201
noncomputable def aC : AV := .sstr 4 1 1
noncomputable def aF : AV := .sstr 5 0 200
noncomputable def aB : AV := .sstr 6 0 200
noncomputable def aT : AV := .sstr 7 201 most

noncomputable def txFacts : List (SX × Int × Int) := [(eD, 1, 201), (eJ, 0, 200)]
noncomputable def oA (ij il z : Bool) : List Orc := [.bin .lss aL aI (.bool false), .bin .lss aL aJ (.bool false), .bin .lss aI aJ (.bool ij), .cut aS (some aI) (some aJ) aP, .bin .gtr aR aI (.bool false), .cut aS (some aR) (some aRL) aP,
  .bin .lss aI aL (.bool il), .cut aS (some (.i64 0)) (some aI) aF, .cut aS (some aI) (some aL) aB, .bin .add aF aB aS, .bin .lss aL aL (.bool false), .bin .lss (.i64 0) aI (.bool z)]
noncomputable def oBig (big : Bool) : List Orc := bif big then [.cut aT none (some (.i64 200)) aS] else [.cut aS none (some aL) aS]
noncomputable def oIJ (ij : Bool) : List Orc := bif ij then [] else [.cut aS (some aI) (some aI) aP]
noncomputable def oIL (il : Bool) : List Orc := bif il then [.bin .geq aI aL (.bool false), .cut aS (some aI) (some aI1) aC, .bin .lss aL aI1 (.bool false), .bin .lss aI aI1 (.bool true)] else [.bin .add aF aP aS]
noncomputable def oZ (z : Bool) : List Orc := bif z then [] else [.cut aS (some (.i64 0)) (some (.i64 0)) aF]
noncomputable def txOrcs (big ij il z : Bool) : List Orc := oA ij il z ++ (oBig big ++ (oIJ ij ++ (oIL il ++ oZ z)))
noncomputable def txArgs (big : Bool) : List AV := [bif big then aT else aS, .sint .i64 (.var 0) lo64 hi64, .sint .i64 (.var 1) lo64 hi64]

end Go.Proofs.YthfaglmbicgfjaaGreatDoor
