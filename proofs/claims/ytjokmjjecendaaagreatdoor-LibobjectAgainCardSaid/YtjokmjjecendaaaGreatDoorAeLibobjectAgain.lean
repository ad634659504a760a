/-
  The law LibobjectAgain, by the kernel.
-/
import Derived.Test.YtjokmjjecendaaaGreatDoorAeLoMade
import Derived.Test.YtjokmjjecendaaaGreatDoorAeLoMS
import Derived.Test.YtjokmjjecendaaaGreatDoorAeLoGS
namespace Go.Proofs.YtjokmjjecendaaaGreatDoor
open Go.AE
set_option maxRecDepth 100000

noncomputable def nA (i : Nat) : AV := .sint .i64 (.var i) lo64 hi64
noncomputable def cfgA : AV := .agg [nA 0, nA 1, nA 2, nA 3, nA 4, nA 5, nA 6]
noncomputable def e1 : SX := .bin .rem .u64 (.conv .u64 (.var 1)) (.con 401)
noncomputable def e2 : SX := .bin .add .i64 (.con 1) (.bin .rem .u64 (.conv .u64 (.var 2)) (.con 31))
noncomputable def e3 : SX := .bin .rem .u64 (.conv .u64 (.var 3)) (.con 201)
noncomputable def e4 : SX := .bin .rem .u64 (.conv .u64 (.var 4)) (.con 10)
noncomputable def e5 : SX := .bin .rem .u64 (.conv .u64 (.var 5)) (.con 10)
noncomputable def cutE : AV := .agg [.i64 0, .sint .i64 e1 0 400, .sint .i64 e2 1 31, .sint .i64 e3 0 200, .sint .i64 e4 0 9, .sint .i64 e5 0 9, .i64 0]
noncomputable def cutV : AV := .agg [.i64 0, .sint .i64 (.var 10) 0 400, .sint .i64 (.var 11) 1 31, .sint .i64 (.var 12) 0 200, .sint .i64 (.var 13) 0 9, .sint .i64 (.var 14) 0 9, .i64 0]

theorem cut_run : evSm env [] [] 300 100 (.fn 4) [cfgA] ⟨.nil, 0, [], []⟩ (fun v _ => sameV v cutE) = true := by kernel_rfl

theorem cut_gives {Y : Sy} (h1 : Y.ints 10 = SX.val Y e1) (h2 : Y.ints 11 = SX.val Y e2) (h3 : Y.ints 12 = SX.val Y e3) (h4 : Y.ints 13 = SX.val Y e4) (h5 : Y.ints 14 = SX.val Y e5) : Gives Y env 4 [cfgA] cutV := by
  intro w cargs hc
  refine (gives_of_sums (Y := Y) (env_ok _) KnownOk.nil SumsOk.nil rfl cut_run w cargs hc).mono fun e w' he => ?_
  obtain ⟨cv, rfl, h, hb⟩ := he
  refine ⟨cv, rfl, ?_, hb⟩
  have e : conc Y (fun _ => none) cutV = conc Y (fun _ => none) cutE := by
    have g : ∀ i, SX.val Y (.var i) = Y.ints i := fun _ => rfl
    simp only [cutV, cutE, conc, concs, List.all, isCell, g, h1, h2, h3, h4, h5]
    rfl
  rw [e]
  exact h

noncomputable def knA : List Known := [⟨4, [cfgA], cutV⟩, ⟨16, [], .bool true⟩]
noncomputable def qMadeUp : Sum := { qMade with stop := 100000 }

theorem run_again : evSm env knA [qMadeUp, sumM qGoesS1] 300 100 (.fn 3) [cfgA] ⟨.nil, 0, [], []⟩ (fun v _ => sameV v (.bool true)) = true := by kernel_rfl

theorem has_goes : hasBody env 16 = true := by kernel_rfl
theorem has_cut : hasBody env 4 = true := by kernel_rfl

def ints7 (l0 l1 l2 l3 l4 l5 l6 : Int) : Nat → Int
  | 0 => l0 | 1 => l1 | 2 => l2 | 3 => l3 | 4 => l4 | 5 => l5 | 6 => l6 | _ => 0

noncomputable def syA (l0 l1 l2 l3 l4 l5 l6 : Int) : Sy :=
  let Z : Sy := ⟨ints7 l0 l1 l2 l3 l4 l5 l6, fun _ => ByteArray.empty, fun _ => (none, 0, 0), fun _ => undef⟩
  ⟨fun i => match i with | 10 => SX.val Z e1 | 11 => SX.val Z e2 | 12 => SX.val Z e3 | 13 => SX.val Z e4 | 14 => SX.val Z e5 | i => ints7 l0 l1 l2 l3 l4 l5 l6 i, fun _ => ByteArray.empty, fun _ => (none, 0, 0), fun _ => undef⟩

theorem libobjectAgain_ret {l0 l1 l2 l3 l4 l5 l6 : Int} (h0 : fit l0) (h1 : fit l1) (h2 : fit l2) (h3 : fit l3) (h4 : fit l4) (h5 : fit l5) (h6 : fit l6) : AE.Returns env.P 3 [cfgC l0 l1 l2 l3 l4 l5 l6] (.bool true) := by
  let Y : Sy := syA l0 l1 l2 l3 l4 l5 l6
  refine Gives.returns (gives_of_sums (Y := Y) (env_ok _) ((KnownOk.nil.cons has_goes (goes_gives Y)).cons has_cut (cut_gives rfl rfl rfl rfl rfl)) (SumsOk.cons (stop_up (qMade_ok Y) (by decide +kernel)) (SumsOk.cons (MqGoesS1_ok Y) SumsOk.nil)) rfl run_again) (concs_cons.2 ⟨_, _, ?_, rfl, rfl⟩) rfl
  have e : ∀ i, fit (Y.ints i) → conc Y (fun _ => none) (nA i) = some (.int .i64 (Y.ints i)) := fun i h => by
    unfold nA
    simp only [conc]
    exact if_pos h
  have hc : concs Y (fun _ => none) [nA 0, nA 1, nA 2, nA 3, nA 4, nA 5, nA 6] = some [.int .i64 l0, .int .i64 l1, .int .i64 l2, .int .i64 l3, .int .i64 l4, .int .i64 l5, .int .i64 l6] :=
    concs_cons.2 ⟨_, _, e 0 h0, concs_cons.2 ⟨_, _, e 1 h1, concs_cons.2 ⟨_, _, e 2 h2, concs_cons.2 ⟨_, _, e 3 h3, concs_cons.2 ⟨_, _, e 4 h4, concs_cons.2 ⟨_, _, e 5 h5, concs_cons.2 ⟨_, _, e 6 h6, rfl, rfl⟩, rfl⟩, rfl⟩, rfl⟩, rfl⟩, rfl⟩, rfl⟩
  have hall : ([nA 0, nA 1, nA 2, nA 3, nA 4, nA 5, nA 6] : List AV).all isCell = true := rfl
  unfold cfgA
  rw [conc, if_pos hall, hc]
  rfl

end Go.Proofs.YtjokmjjecendaaaGreatDoor
