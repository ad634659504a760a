/-
  Proved: for every input the call GeneratorBoxes returns true and changes nothing that was there before it, the package variables as the program's text lays them ('Rows.GeneratorBoxesCardSaid'). No further conditions.
  The first loop goes over all values, however many; the second over at most 50, from state to state (a state's formula is given for each round); each piece is evaluated by the kernel with a verified evaluator (the texts AeData to AeLoop). The run reads no package variable. The frame of this text follows the kit's proof-skeleton program and its worked example of a tied card.
-/
import Derived.Test.YtnkjembkhjellaaGreatDoorRows
import Derived.Test.YtnkjembkhjellaaGreatDoorTie
import Derived.Test.YtnkjembkhjellaaGreatDoorCards
import Derived.WalkKit
import Derived.ProofKit
import Derived.OpenShut
import Derived.LaidMore
import Derived.Lay
import Derived.Stop.Joined
import Derived.SevenTiedAt
import Derived.Test.YtnkjembkhjellaaGreatDoorAeArgs
import Derived.Test.YtnkjembkhjellaaGreatDoorAeGeneratorBoxesRow
namespace Go.AE

/-- where no function of a program starts a goroutine -/
theorem goes_false {P : Program} (h : P.funcs.any Func.goes = false) (f : FuncId) : P.goes f = false := by
  have hf : ∀ (g : FuncId) (fn : Func), P.funcs[g]? = some fn → fn.goes = false := by
    intro g fn hg
    rw [Array.any_eq_false] at h
    obtain ⟨hlt, rfl⟩ := Array.getElem?_eq_some_iff.1 hg
    cases hx : (P.funcs[g]).goes with
    | false => rfl
    | true => exact absurd hx (h g hlt)
  unfold Program.goes
  rw [h, Bool.and_false, Bool.or_false]
  refine Bool.eq_false_iff.2 fun hx => ?_
  simp only [List.any_eq_true] at hx
  obtain ⟨g, _, hg⟩ := hx
  cases he : P.funcs[g]? with
  | none => rw [he] at hg; cases hg
  | some fn =>
    rw [he] at hg
    have := hf g fn he
    simp only [Option.any_some] at hg
    rw [this] at hg
    cases hg

theorem goesBy_false {P : Program} (h : P.funcs.any Func.goes = false) (c : OpenClaim) : c.goesBy P = false := by
  unfold OpenClaim.goesBy Program.goesAt Program.goesFrom
  have e1 : (P.funcNamed c.func).any P.goes = false := by
    cases P.funcNamed c.func with
    | none => rfl
    | some f => exact goes_false h f
  have e2 : P.inits.toList.any P.goes = false := by
    rw [List.any_eq_false]
    intro f _
    rw [goes_false h f]
    decide
  rw [e1, e2]
  cases c.start <;> rfl

end Go.AE

namespace Go.Proofs.YtnkjembkhjellaaGreatDoor.generatorBoxes
set_option maxRecDepth 100000

theorem funcs_goes : Tryz.prog.funcs.any Func.goes = false := by kernel_rfl

theorem card_goes : false = Rows.generatorBoxesRow.goesBy Tryz.pinned.checked.prog := (AE.goesBy_false funcs_goes _).symm

end Go.Proofs.YtnkjembkhjellaaGreatDoor.generatorBoxes

namespace Go.Proofs.YtnkjembkhjellaaGreatDoor.generatorBoxes
open Go.ChangeShapes Go.WideShapes Go.ChangeAt Go.RowKit

set_option maxRecDepth 100000 in
theorem lifted (os : Os) (started : os.Started) (H : Type) (enc : TypeId × Value → H) :
    ReturnsInHanded {} Tryz.checked os 3 .any (fun w args => (Rows.generatorBoxesSpec.pre enc Tryz.prog Tryz.f3 [] false w args ∧ laidMetH Tryz.prog Rows.generatorBoxesRow.laid w) ∧ sizedMet enc Tryz.prog Tryz.f3 (OpenSpec.ofChange Rows.generatorBoxesSpec) false w args)
      (Rows.generatorBoxesSpec.post enc Tryz.prog Tryz.f3 false true false false) := by
  refine returnsInHanded_of_change_and (C := Tryz.checked) (X := fun w _ => laidMetH Tryz.prog Rows.generatorBoxesRow.laid w) (fun _ _ _ hh h => h.of_heap hh) own started (by kernel_rfl) Tryz.func3
    (ChangeSpec.witness_shaped (enc := enc) (C := Tryz.checked) (os := os) (X := fun w _ => laidMetH Tryz.prog Rows.generatorBoxesRow.laid w) false (World.laidAll Tryz.prog os Rows.generatorBoxesRow.laid) #[.slice none 0 0] 8 (World.laidAll_os _ _ _) (World.shaped_of_ZipB (by kernel_rfl) (by kernel_rfl)) (by kernel_rfl) (by kernel_rfl) (by kernel_rfl) (by rw [MakeChecks.laidMetH_plain _ _ _ (by kernel_rfl)]; exact laidMet_laidAll _ (by kernel_rfl) (by kernel_rfl))) ?_
  intro W base args ds gs before hval0 hW _ _ _ _
  have hval : ∀ (j : Nat) t v, Tryz.f3.params[j]? = some t → args[j]? = some v → Value.okWide Tryz.prog W .any base t v := hval0
  have hW' := hW
  obtain ⟨p, q, hA0, hV, rfl, hfz, hnd⟩ := hW
  have hA : DataW.TrodAll enc Tryz.prog W 0 (fun _ => true) true Tryz.f3.params.toList args.toList ds p := hA0
  have hA1 := hA
  rw [Tryz.params3] at hA hval
  obtain ⟨v0, vs0, d0, ds0, p0, q0, hargs, rfl, rfl, h0, r0⟩ := trodAll_cons hA
  obtain ⟨rfl, rfl, rfl⟩ := trodAll_nil r0
  obtain rfl : args = #[v0] := by cases args; simp_all
  obtain ⟨rfl, rfl⟩ := trodVars_none hV
  obtain ⟨a, len, cap, rfl⟩ := okWide_slice Tryz.underlying22 (hval 0 22 v0 rfl rfl)
  have hlt := hW'.lt
  have hs : ∃ xs, Elems W (a, len, cap) xs ∧ len ≤ cap := by
    obtain ⟨fuel, hf⟩ := h0
    rcases open_vals hf with hcs | ⟨A, len', cap', I, hcs, hl, hm, hq⟩
    · have e : Value.slice a len cap = .slice none 0 0 := by simpa [Value.cells] using hcs
      cases e
      exact ⟨[], elems_nil W, Nat.le_refl _⟩
    · have e : Value.slice a len cap = .slice (some A) len' cap' := by simpa [Value.cells] using hcs
      cases e
      have hm' : cap ≤ 9223372036854775807 := hm
      exact ⟨_, elems_of (by omega) hq, hl⟩
  obtain ⟨xs, hX, hcap⟩ := hs
  refine (boxes_calls hX hcap).mono fun e W' ⟨he, hg⟩ => ?_
  subst he
  refine ⟨_, rfl, AE.post_of_below (pa := p0 ++ []) (pv := []) hW' (fun _ _ _ => (trodAll_cons_mk (shut_bool Tryz.underlying4 _) trodAll_mk0)) (fun sp hsp => ?_) (fun _ _ => rfl) rfl
    hg (ok_one (by kernel_rfl) rfl (okWide_bool_mk Tryz.underlying4 _))⟩
  exact AE.trodAll_stays laid hg (by kernel_rfl) hA1 (fun x hx => hlt x (by simpa using hx)) fun x hx => hsp x (by simpa using hx)

theorem over : Rows.GeneratorBoxesSaid :=
  OpenClaim.holds_of_wide 3 Tryz.f3 rfl rfl rfl rfl rfl rfl rfl ⟨rfl, rfl, rfl, rfl, rfl⟩ rfl rfl rfl rfl rfl named Tryz.func3 closed instanced wrapped
    (fun os started H enc _ => lifted os started H enc)

/-- the statement -/
theorem proved : Rows.GeneratorBoxesCardSaid :=
  Claim7.holds_tied_plain_at .later [] [.data] true (true, "6c762b91fd5d020bddad8554696767c667f8831b5eb97a7a9eeed094f8748514") false
    over (fun _ h => by cases h) (by as_aux_lemma => kernel_rfl) (fun _ h => by cases h) generatorBoxes_row_tie rfl ⟨rfl, rfl⟩ (by as_aux_lemma => kernel_rfl) rfl
    (fun f fn hf hfn => by
      obtain rfl : f = 3 := Option.some.inj (named.symm.trans hf) |>.symm
      obtain rfl : fn = Tryz.f3 := (Option.some.inj (Tryz.func3.symm.trans hfn)).symm
      exact ⟨by as_aux_lemma => kernel_rfl, fun j t ht => by
        rw [Tryz.params3] at ht
        have hm : t ∈ [22] := by simpa using Array.mem_of_getElem? ht
        have hall : ([22].all fun u => !Tryz.prog.wantsStandIn u) = true := by as_aux_lemma => kernel_rfl
        exact (show Tryz.prog.wantsStandIn t = false by simpa using List.all_eq_true.1 hall t hm)⟩)
    card_goes
#print axioms proved
end Go.Proofs.YtnkjembkhjellaaGreatDoor.generatorBoxes
