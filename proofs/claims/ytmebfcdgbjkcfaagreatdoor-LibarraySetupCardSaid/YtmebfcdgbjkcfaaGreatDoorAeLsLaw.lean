/-
  The law LibarraySetup: every call returns true.
-/
import Derived.Test.YtmebfcdgbjkcfaaGreatDoorAeLsMade
namespace Go.Proofs.YtmebfcdgbjkcfaaGreatDoor
open Go.AE
set_option maxRecDepth 100000

noncomputable def lsArg (a b : Int) : List AV := [.sint .i64 (.var 0) a b]
theorem run_ls_0 : evSm env [] [qQuiet, qMade] 300 100 (.fn 3) (lsArg lo64 49) (heapG [gHole] 1) (fun v _ => sameV v (.bool true)) = true := by kernel_rfl
theorem run_ls_1 : evSm env [] [qQuiet, qMade] 300 100 (.fn 3) (lsArg 50 65) (heapG [gHole] 1) (fun v _ => sameV v (.bool true)) = true := by kernel_rfl
theorem run_ls_2 : evSm env [] [qQuiet, qMade] 300 100 (.fn 3) (lsArg 66 69) (heapG [gHole] 1) (fun v _ => sameV v (.bool true)) = true := by kernel_rfl
theorem run_ls_3 : evSm env [] [qQuiet, qMade] 300 100 (.fn 3) (lsArg 70 73) (heapG [gHole] 1) (fun v _ => sameV v (.bool true)) = true := by kernel_rfl
theorem run_ls_4 : evSm env [] [qQuiet, qMade] 300 100 (.fn 3) (lsArg 74 79) (heapG [gHole] 1) (fun v _ => sameV v (.bool true)) = true := by kernel_rfl
theorem run_ls_5 : evSm env [] [qQuiet, qMade] 300 100 (.fn 3) (lsArg 80 83) (heapG [gHole] 1) (fun v _ => sameV v (.bool true)) = true := by kernel_rfl
theorem run_ls_6 : evSm env [] [qQuiet, qMade] 300 100 (.fn 3) (lsArg 84 hi64) (heapG [gHole] 1) (fun v _ => sameV v (.bool true)) = true := by kernel_rfl

abbrev Says (n : Int) (w : World) : Prop := Calls Tryz.prog 3 #[.int .i64 n] w fun e w' => e = .returned (.bool true) ∧ RowKit.Below w.heap.size w w'

def syN (n : Int) : Sy := ⟨fun _ => n, fun _ => ByteArray.empty, fun _ => (none, 0, 0), fun _ => undef⟩

theorem ls_says {n : Int} {w : World} (hv : Vars w) {a b : Int} (ha : a ≤ n) (hb : n ≤ b) (hrun : evSm env [] [qQuiet, qMade] 300 100 (.fn 3) (lsArg a b) (heapG [gHole] 1) (fun v _ => sameV v (.bool true)) = true) : Says n w := by
  refine (laid_run (env_ok (syN n)) KnownOk.nil (SumsOk.cons (qQuiet_ok _) (SumsOk.cons (qMade_ok _) SumsOk.nil)) (Nat.le_refl 1) hrun (cargs := [.int .i64 n]) (concs_cons.2 ⟨_, _, if_pos ⟨ha, hb⟩, rfl, rfl⟩) (laidW_of hv)).mono fun e w' he => ?_
  obtain ⟨cv, rfl, h1, h2⟩ := he
  cases h1
  exact ⟨rfl, h2⟩

/-- every call returns true -/
theorem ls_calls {n : Int} {w : World} (hv : Vars w) (hn : lo64 ≤ n ∧ n ≤ hi64) : Says n w := by
  by_cases h0 : n ≤ 49
  · exact ls_says hv hn.1 h0 run_ls_0
  by_cases h1 : n ≤ 65
  · exact ls_says hv (by omega) h1 run_ls_1
  by_cases h2 : n ≤ 69
  · exact ls_says hv (by omega) h2 run_ls_2
  by_cases h3 : n ≤ 73
  · exact ls_says hv (by omega) h3 run_ls_3
  by_cases h4 : n ≤ 79
  · exact ls_says hv (by omega) h4 run_ls_4
  by_cases h5 : n ≤ 83
  · exact ls_says hv (by omega) h5 run_ls_5
  exact ls_says hv (by omega) hn.2 run_ls_6

end Go.Proofs.YtmebfcdgbjkcfaaGreatDoor
