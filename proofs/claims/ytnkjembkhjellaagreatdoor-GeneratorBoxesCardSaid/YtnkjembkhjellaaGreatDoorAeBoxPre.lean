/-
  GeneratorBoxes: the runs of its first loop and of what lies between the loops.
-/
import Derived.Test.YtnkjembkhjellaaGreatDoorAeBoxA
namespace Go.Proofs.YtnkjembkhjellaaGreatDoor
open Go.AE
set_option maxRecDepth 100000

abbrev keepA : Nat := 14337
abbrev keepAb : Nat := 30721
abbrev keepP : Nat := 1
def restA : List Nat := [2, 4, 5, 6, 7, 8, 9, 10, 14, 30, 48, 86, 90, 124, 138]
def restAb : List Nat := [2, 4, 5, 6, 7, 8, 9, 10, 30, 48, 86, 90, 124, 138]
def restP : List Nat := [2, 4, 5, 6, 7, 8, 9, 10, 11, 12, 13, 14, 30, 48, 86, 90, 124, 138]

def tmA (i : AV) : List (Nat × AV) := [(0, sliceB0), (11, sliceB0), (12, .sint .i64 (.slen 0) 0 9223372036854775807), (13, i)]
/-- at the first loop's head: at its beginning; in front of round Y.ints 1000; behind a round -/
noncomputable def hA0 : Hd := ⟨tmA (.i64 0) ++ opqs restA, [], 0, []⟩
noncomputable def hA : Hd := ⟨tmA (.sint .i64 (.var 1000) 0 9223372036854775807) ++ opqs restA, [], 0, []⟩
noncomputable def hAb (b : Bool) : Hd := ⟨tmA (.sint .i64 (.var 1000) 0 9223372036854775807) ++ (opqs restAb ++ [(14, .bool b)]), [], 0, []⟩
noncomputable def hAr : Hd := ⟨tmA (.sint .i64 (.var 1000) 0 9223372036854775806) ++ opqs restA, [], 0, []⟩
noncomputable def hAn : Hd := ⟨tmA (.sint .i64 (.bin .add .i64 (.var 1000) (.con 1)) 1 9223372036854775807) ++ opqs restA, [], 0, []⟩
/-- behind it -/
noncomputable def hP : Hd := ⟨[(0, sliceB0)] ++ opqs restP, [], 0, []⟩
/-- at most 50 elements -/
noncomputable def hP50 : Hd := ⟨[(0, .uslice 0 999 0 0 50)] ++ opqs restP, [], 0, []⟩
noncomputable def hP51 : Hd := hP.add 0 0 51 most []

noncomputable def rc0 : Rec := evSm env [] [] 300 99
noncomputable def entryA : Bool := runL cl rc0 [cA0, cA1] (fit keepA 147 hA0) (ofListV [sliceB0]) [] ⟨.nil, 0, [], []⟩
noncomputable def flA2 : List (Nat × P2) := match flushOf LL fn3.ntmps [some 14] 0 [] with | some l => l | none => []
noncomputable def testA (b : Bool) : Bool := fit keepAb 147 (hAb b) (flush flA2 [.bool b] hA.tmT) [] hA.heap
noncomputable def exitA : Bool := (cl (.cond (.tmp 14) .skip (.exit 0))).run rc0 none (hAb false).tmT [] (hAb false).heap noK (fun id => match id with | 0 => fit keepP 147 hP | _ => noK) noK

/-- an element's class -/
noncomputable def vAV (c : Cl) : AV := vA 2000 2001 90 c.a c.b lo64 hi64 c.l c.h
def gB : Cl := ⟨0, 5, 0, 500, true⟩
def kB : Cl := ⟨6, 9, 0, most, true⟩
def lB : Cl := ⟨0, 5, 501, most, true⟩
noncomputable def rcA (c : Cl) : Rec := evSm env [⟨4, [vAV c], .bool c.may⟩, ⟨5, [], .bool true⟩] [] 300 99
noncomputable def opsA3 : List Oper := [opN cA3 0, opN cA3 1, opN cA3 2, opN cA3 3]
noncomputable def flA3 : List (Nat × P2) := match flushOf LL fn3.ntmps ((([opN cA3 2, opN cA3 3]).map fun o => o.dst).reverse ++ [some 16, some 15]) 0 [] with | some l => l | none => []
/-- the rest of the round: its test; where the element is good, the counter -/
noncomputable def bodyA (c : Cl) (kn kr : KT) : KT := fun tm df h => (cl cAT).run (rcA c) none tm df h kn (fun _ => noK) kr
noncomputable def roundA (c : Cl) (kn kr : KT) : Bool := (cOps env LL opsA3 [opN cA3 2, opN cA3 3] [some 16, some 15]).run (rcA c) hAr.tmT [vAV c, .opq (.var 15)] hAr.heap (fun env' h' => bodyA c kn kr (flush flA3 env' hAr.tmT) [] h')
noncomputable def goodA : Bool := roundA gB (runL cl rc0 [cA6] (fit keepA 147 hAn)) noK
noncomputable def badA (c : Cl) : Bool := roundA c noK kr

noncomputable def preRun2 : Bool := runL cl rcB preB (runL cl rcB [cP] (fit keepB 147 (hd 0))) hP50.tmT [] hP50.heap
noncomputable def pre51 : Bool := (cl (sl (dC 2))).run rcB none hP51.tmT [] hP51.heap (fun tm df h => (cl (sl (dC 3))).run rcB none tm df h noK (fun _ => noK) kr) (fun _ => noK) noK

theorem entryA_run : entryA = true := by kernel_rfl
theorem testA_run (b : Bool) : testA b = true := by cases b <;> kernel_rfl
theorem exitA_run : exitA = true := by kernel_rfl
theorem goodA_run : goodA = true := by kernel_rfl
theorem badA_f : badA bad0 = true := by kernel_rfl
theorem badA_k : badA kB = true := by kernel_rfl
theorem badA_l : badA lB = true := by kernel_rfl
theorem pre2_run : preRun2 = true := by kernel_rfl
theorem pre51_run : pre51 = true := by kernel_rfl

end Go.Proofs.YtnkjembkhjellaaGreatDoor
