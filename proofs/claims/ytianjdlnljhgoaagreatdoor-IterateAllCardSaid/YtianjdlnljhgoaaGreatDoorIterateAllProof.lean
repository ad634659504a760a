/-
  Proved: for every plan the call IterateAll returns true and changes nothing that was there before it, the package variables as the program's text lays them ('Rows.IterateAllCardSaid'). No further conditions.
  The plans are parted into paths (so many steps that go on, then a last one; plans that end at once); each path is evaluated by the kernel with a verified evaluator (AeKit..), the rounds of the loop with their collections once for all paths (AeItN..). The run reads no package variable. The frame of this text follows the kit's worked examples of a row that lists variables and of a tied card.
-/
import Derived.Test.YtianjdlnljhgoaaGreatDoorRows
import Derived.Test.YtianjdlnljhgoaaGreatDoorTie
import Derived.Test.YtianjdlnljhgoaaGreatDoorCards
import Derived.WalkKit
import Derived.ProofKit
import Derived.OpenShut
import Derived.LaidMore
import Derived.Lay
import Derived.Stop.Joined
import Derived.SevenTiedAt
import Derived.Deep.DeepHandedRow
import Derived.JoinedCond
import Derived.MakeChecks
import Derived.Handed
import Derived.Lib.LaidU8
import Derived.Lib.LaidTab
import Derived.LaidLaws
import Derived.ChangeMaps5
import Derived.Test.YtianjdlnljhgoaaGreatDoorAeItRow
import Derived.Test.YtianjdlnljhgoaaGreatDoorAeItArgs
import Derived.Test.YtianjdlnljhgoaaGreatDoorAeItLast
namespace Go.AE

/-- where no function of a program starts a goroutine -/
theorem goes_false {P : Program} (h : P.funcs.any Func.goes = false) (f : FuncId) : P.goes f = false := by
  have hf : ∀ (g : FuncId) (fn : Func), P.funcs[g]? = some fn → fn.goes = false := by
    intro g fn hg
    rw [Array.any_eq_false] at h
    obtain ⟨hlt, rfl⟩ := Array.getElem?_eq_some_iff.1 hg
    cases hx : (P.funcs[g]).goes with
    | false => rfl
    | true => exact absurd hx (h g hlt)
  unfold Program.goes
  rw [h, Bool.and_false, Bool.or_false]
  refine Bool.eq_false_iff.2 fun hx => ?_
  simp only [List.any_eq_true] at hx
  obtain ⟨g, _, hg⟩ := hx
  cases he : P.funcs[g]? with
  | none => rw [he] at hg; cases hg
  | some fn =>
    rw [he] at hg
    have := hf g fn he
    simp only [Option.any_some] at hg
    rw [this] at hg
    cases hg

theorem goesBy_false {P : Program} (h : P.funcs.any Func.goes = false) (c : OpenClaim) : c.goesBy P = false := by
  unfold OpenClaim.goesBy Program.goesAt Program.goesFrom
  have e1 : (P.funcNamed c.func).any P.goes = false := by
    cases P.funcNamed c.func with
    | none => rfl
    | some f => exact goes_false h f
  have e2 : P.inits.toList.any P.goes = false := by
    rw [List.any_eq_false]
    intro f _
    rw [goes_false h f]
    decide
  rw [e1, e2]
  cases c.start <;> rfl

end Go.AE

namespace Go.Proofs.YtianjdlnljhgoaaGreatDoor
open Go.ChangeShapes Go.WideShapes
set_option maxRecDepth 100000

theorem own : ownKnob Tryz.prog.godebug = none := by kernel_rfl
theorem laid : laidOutB Tryz.prog = true := by kernel_rfl

end Go.Proofs.YtianjdlnljhgoaaGreatDoor

namespace Go.Proofs.YtianjdlnljhgoaaGreatDoor.iterateAll
open Go.ChangeShapes Go.WideShapes Go.ChangeAt Go.RowKit
set_option maxRecDepth 100000

theorem funcs_goes : Tryz.prog.funcs.any Func.goes = false := by kernel_rfl

theorem card_goes : false = Rows.iterateAllRow.goesBy Tryz.pinned.checked.prog := (AE.goesBy_false funcs_goes _).symm

/-- there is an input that fits -/
theorem witness (os : Os) (H : Type) (enc : TypeId × Value → H) :
    ∃ (w : World) (tape : Tape) (i : Input), w.os = os ∧ (w.forCall tape i).Shaped Tryz.prog ∧ i.vars = [] ∧ Input.okWide Tryz.prog (w.forCall tape i) .any w.heap.size 3 i ∧
      (OpenSpec.ofChange Rows.iterateAllSpec).preRow enc Tryz.prog Tryz.f3 Rows.iterateAllRow.domain false Rows.iterateAllRow.laid (w.forCall tape i).memory i.args ∧ ({} : Assume).holds Tryz.prog (lone (Frame.enter Tryz.prog 3 i.args .normal) [] (w.forCall tape i)) := by
  have hok : Input.okWideB Tryz.prog ((World.laidAll Tryz.prog os Rows.iterateAllRow.laid).forCall (fun _ _ => 0) ⟨#[], #[.agg #[.int .i64 0, .int .i64 0, .int .i64 0, .int .i64 0, .bool false, .int .i64 0, .int .i64 0, .string ⟨#[]⟩, .int .i64 0, .bool false, .int .i64 0, .int .i64 0, .string ⟨#[]⟩, .slice none 0 0]], []⟩) 3 ⟨#[], #[.agg #[.int .i64 0, .int .i64 0, .int .i64 0, .int .i64 0, .bool false, .int .i64 0, .int .i64 0, .string ⟨#[]⟩, .int .i64 0, .bool false, .int .i64 0, .int .i64 0, .string ⟨#[]⟩, .slice none 0 0]], []⟩ = true := by kernel_rfl
  refine ⟨World.laidAll Tryz.prog os Rows.iterateAllRow.laid, fun _ _ => 0, ⟨#[], #[.agg #[.int .i64 0, .int .i64 0, .int .i64 0, .int .i64 0, .bool false, .int .i64 0, .int .i64 0, .string ⟨#[]⟩, .int .i64 0, .bool false, .int .i64 0, .int .i64 0, .string ⟨#[]⟩, .slice none 0 0]], []⟩, World.laidAll_os _ _ _, World.shaped_of_ZipB (by kernel_rfl) (by kernel_rfl), (Input.okWide_of_okWideB (base := 0) hok).1, (Input.okWide_of_okWideB hok).2, ?_, ?_⟩
  · exact OpenSpec.preRow_of_cond 8 (x := ([.agg [.lit (.int .i64 0), .lit (.int .i64 0), .lit (.int .i64 0), .agg [.lit (.int .i64 0), .lit (.bool false), .agg [.lit (.int .i64 0), .lit (.int .i64 0), .lit (.string [])]], .agg [.lit (.int .i64 0), .lit (.bool false), .agg [.lit (.int .i64 0), .lit (.int .i64 0), .lit (.string [])]], .nil]], [], [])) (by kernel_rfl) (by kernel_rfl) (fun k hk => by cases hk) (by kernel_rfl)
      (by rw [MakeChecks.laidMetH_plain _ _ _ (by kernel_rfl)]; exact laidMet_laidAll _ (by kernel_rfl) (by kernel_rfl))
  · simp only [Assume.holds]
    exact ⟨by simp, by simp, fun _ => Modest.zero, by simp, by simp⟩

theorem lifted (os : Os) (started : os.Started) (H : Type) (enc : TypeId × Value → H) (F : Stop.Interp) :
    ReturnsInHanded {} Tryz.checked os 3 .any ((OpenSpec.ofChange Rows.iterateAllSpec).preRow enc Tryz.prog Tryz.f3 Rows.iterateAllRow.domain false Rows.iterateAllRow.laid) (((OpenSpec.ofChange Rows.iterateAllSpec).at F).post enc Tryz.prog Tryz.f3 false true false false) := by
  refine returnsInHanded_of_row (C := Tryz.checked) (s := OpenSpec.ofChange Rows.iterateAllSpec) own started (by kernel_rfl) Tryz.func3 (witness os H enc) ?_
  intro W base args ds gs before hval0 hW _ _ hreach hL _ _
  have hval : ∀ (j : Nat) t v, Tryz.f3.params[j]? = some t → args[j]? = some v → Value.okWide Tryz.prog W .any base t v := hval0
  have hW' : DataW.Whole enc Tryz.prog Tryz.f3.params.toList Rows.iterateAllSpec.vars false W args.toList ds gs before := hW
  obtain ⟨p, q, hA0, hV, rfl, hfz, hnd⟩ := hW
  have hA : DataW.TrodAll enc Tryz.prog W 0 (fun _ => true) true Tryz.f3.params.toList args.toList ds p := hA0
  have hA1 := hA
  rw [Tryz.params3] at hA hval
  obtain ⟨v0, vs0, d0, ds0, p0, q0, hargs, rfl, rfl, h0, r0⟩ := trodAll_cons hA
  obtain ⟨rfl, rfl, rfl⟩ := trodAll_nil r0
  obtain rfl : args = #[v0] := by cases args; simp_all
  obtain ⟨rfl, rfl⟩ := trodVars_none hV
  obtain ⟨cs, rfl, hsz⟩ := okWide_struct Tryz.underlying28 (hval 0 28 v0 rfl rfl)
  obtain ⟨fuel, hf⟩ := h0
  obtain ⟨m, n, r, it, bye, v, xs, hcs, k1, k2, k3, k4, k5⟩ := open_plan hf
  obtain rfl : cs = planC m n r it bye v := by apply Array.ext'; exact hcs
  have hlt := hW'.lt
  refine (iterateAll_ret m n r it bye xs v W k3 k5 k1 k2 k4).mono fun e W' ⟨he, hg⟩ => ?_
  subst he
  refine ⟨_, rfl, AE.post_of_below (pa := p0 ++ []) (pv := []) hW' (fun _ _ _ => (trodAll_cons_mk (shut_bool Tryz.underlying4 _) trodAll_mk0)) (fun sp hsp => ?_) (fun _ _ => rfl) rfl
    hg (ok_one (by kernel_rfl) rfl (okWide_bool_mk Tryz.underlying4 _))⟩
  exact AE.trodAll_stays laid hg (by kernel_rfl) hA1 (fun x hx => hlt x (by simpa using hx)) fun x hx => hsp x (by simpa using hx)

theorem over : Rows.IterateAllSaid :=
  OpenClaim.holds_of_cond 3 Tryz.f3 rfl rfl rfl rfl rfl rfl rfl ⟨rfl, rfl, rfl, rfl, rfl⟩ rfl rfl rfl rfl rfl named Tryz.func3 closed instanced wrapped
    (fun os started H enc _ F => by rw [OpenClaim.pre_eq_preRow]; exact lifted os started H enc F)

/-- the statement -/
theorem proved : Rows.IterateAllCardSaid :=
  Claim7.holds_tied_plain_at .later [] [.data, .data, .data, .data] true _ _
    over (fun _ h => by cases h) (by as_aux_lemma => kernel_rfl) (fun _ h => by cases h) iterateAll_row_tie rfl ⟨rfl, rfl⟩ (by as_aux_lemma => kernel_rfl) rfl
    (fun f fn hf hfn => by
      obtain rfl : f = 3 := Option.some.inj (named.symm.trans hf) |>.symm
      obtain rfl : fn = Tryz.f3 := (Option.some.inj (Tryz.func3.symm.trans hfn)).symm
      exact ⟨by as_aux_lemma => kernel_rfl, fun j t ht => by
        rw [Tryz.params3] at ht
        have hm : t ∈ [28] := by simpa using Array.mem_of_getElem? ht
        have hall : ([28].all fun u => !Tryz.prog.wantsStandIn u) = true := by as_aux_lemma => kernel_rfl
        exact (show Tryz.prog.wantsStandIn t = false by simpa using List.all_eq_true.1 hall t hm)⟩)
    card_goes
#print axioms proved
end Go.Proofs.YtianjdlnljhgoaaGreatDoor.iterateAll
