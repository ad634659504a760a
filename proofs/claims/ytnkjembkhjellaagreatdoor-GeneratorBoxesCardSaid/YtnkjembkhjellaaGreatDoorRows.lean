/-
  NARROWER THAN 'FOR EVERY INPUT', by the rows' own cells (each row's printed sentence says how): GeneratorBoxes: laid.
  DERIVED. THE GIVEN ROWS OF THIS SEAT. 1 by the template 'for every input the law returns true; each argument reads behind the call as it read before'; 0 by the template 'total and deterministic' (their statements: YtnkjembkhjellaaGreatDoorTotals.lean).
  GIVEN WITH THE SEED: the statements are not yours to turn. If you find one false, say at which input.
  Laid BY PROGRAM, IN A SANDBOX (cutbox-rows.mjs): the forced cells as the released guide's own fill.sh prints them over the translation cd82aa916549736d… (all of the seat's roots in one cut). By AI agents, Wed Nov 11 2026. No macro, syntax, notation, axiom, sorry.
-/
import Derived.Test.YtnkjembkhjellaaGreatDoorChecked
import GoSem.Claim
import GoSem.ClaimJoined
import GoSem.ClaimMapViews
import Derived.JoinedTies
import Derived.KernelRfl
namespace Go.Proofs.YtnkjembkhjellaaGreatDoor
/- THE CELL 'sum', in the pinned program and in every row, IS THE sha256 OF THE DUMP (.gsa) THAT YtnkjembkhjellaaGreatDoorProg.lean LOADS. Nothing in Lean hashes anything: it is a label: what it is worth is what the hold of that sum in a sandbox is worth. -/
noncomputable def Tryz.pinned : Pinned := { name := "ytnkjembkhjellaagreatdoor", sum := "cd82aa916549736d1a3e04ea9a487cb94f7ac51c1b7862ffe0c634a8153f53c9", checked := Tryz.checked }
namespace Rows
def none {H : Type} : Left H := { results := [], args := [] }

/- WHAT THE LISTED PACKAGE-LEVEL VARIABLES READ AS WHEN THE CALL BEGINS. Each datum BY PROGRAM (the guide's laid-datum.mjs) off the statement by which the dump's own 'gosem.cut.vars' lays the variable. In a bare row this is a premise. The card (YtnkjembkhjellaaGreatDoorCards.lean) ties it to the program's text. -/
def laid_pantomime_array_hole {H : Type} : DataW H := .agg [.lit (.int .i64 8), .lit (.int .i64 0), .lit (.string [])]

/-- 'pantomimelaw39.GeneratorBoxes': WHATEVER THE INPUT: true; the input reads as it did. -/
def generatorBoxesSpec : ChangeSpec := { name := "generatorBoxes", fn := fun _ => fun
  | [d] => { results := [.lit (.bool true)], args := [d] }
  | _ => none }
def generatorBoxesRow : OpenClaim := { program := "ytnkjembkhjellaagreatdoor", sum := "cd82aa916549736d1a3e04ea9a487cb94f7ac51c1b7862ffe0c634a8153f53c9", func := "pantomime/pantomimelaw39.GeneratorBoxes", spec := "generatorBoxes", unfollowed := true, recurses := true, named := ["pantomime/array.hole"], plainKeys := false, apart := false, laid := [("pantomime/array.hole", laid_pantomime_array_hole)] }
def GeneratorBoxesSaid : Prop := generatorBoxesRow.holds Tryz.pinned (OpenSpec.ofChange generatorBoxesSpec)

/-- ITS FALSE NEIGHBOUR: 'it returns false'. Refute it at one input. -/
def generatorBoxesWrong : ChangeSpec := { name := "generatorBoxes", fn := fun _ => fun
  | [d] => { results := [.lit (.bool false)], args := [d] }
  | _ => none }
def GeneratorBoxesWrongFalsely : Prop := generatorBoxesRow.holds Tryz.pinned (OpenSpec.ofChange generatorBoxesWrong)

/- THE SECOND FORM. 'bulk': how many values and letters a reading holds, each counted each time it is reached (what is shared counts as often as it is met; a slice's spare places count too). A statement '..UptoSaid' is the law's where the arguments, and the package variables that the reading takes, are together of bulk at most 1048576: NARROWER than '..Said'. Prove '..Said' where nothing that the law and all that it calls make is longer than what came in: it says more and counts as full. Else prove '..UptoSaid'. A law counts once. -/
mutual
def uptoBulk {H : Type} : DataW H → Nat
  | .lit (.string bytes) => bytes.length + 1
  | .lit _ => 1
  | .nil => 1
  | .ptr d => uptoBulk d + 1
  | .slice elems spare => uptoBulkAll elems + uptoBulkAll spare + 1
  | .agg parts => uptoBulkAll parts + 1
  | .iface _ d => uptoBulk d + 1
  | .map entries => uptoBulkEntries entries + 1
  | .held _ => 1
def uptoBulkAll {H : Type} : List (DataW H) → Nat
  | [] => 0
  | d :: r => uptoBulk d + uptoBulkAll r
def uptoBulkEntries {H : Type} : List (Lit × DataW H) → Nat
  | [] => 0
  | x :: r => uptoBulkEntry x + uptoBulkEntries r
def uptoBulkEntry {H : Type} : Lit × DataW H → Nat
  | (.string bytes, d) => bytes.length + uptoBulk d + 1
  | (_, d) => uptoBulk d + 1
 end
def uptoSmall : (H : Type) → List (DataW H) → Bool := fun _ ds => decide (uptoBulkAll ds ≤ 1048576)
def OpenSpec.upto (s : _root_.Go.ChangeSpec) : _root_.Go.OpenSpec := { _root_.Go.OpenSpec.ofChange s with cond := some uptoSmall }

/-- 'pantomimelaw39.GeneratorBoxes', WHERE WHAT IT READS IS OF BULK AT MOST 1048576: true; the input reads as it did. -/
def generatorBoxesUptoRow : OpenClaim := { program := "ytnkjembkhjellaagreatdoor", sum := "cd82aa916549736d1a3e04ea9a487cb94f7ac51c1b7862ffe0c634a8153f53c9", func := "pantomime/pantomimelaw39.GeneratorBoxes", spec := "generatorBoxes", unfollowed := true, recurses := true, named := ["pantomime/array.hole"], plainKeys := false, apart := false, laid := [("pantomime/array.hole", laid_pantomime_array_hole)], narrowed := true }
def GeneratorBoxesUptoSaid : Prop := generatorBoxesUptoRow.holds Tryz.pinned (OpenSpec.upto generatorBoxesSpec)

end Rows
end Go.Proofs.YtnkjembkhjellaaGreatDoor
