/-
  Proved: for every input the call AbsopPlain returns true and changes nothing that was there before it, the package variables as the program's text lays them ('Rows.AbsopPlainCardSaid'). No further conditions.
  The inputs are parted into classes; each class is evaluated by the kernel with a verified evaluator (the texts AeData to AeGlob). Of the package variables the run reads one, the table of the powers of ten. The frame of this text follows the kit's proof-skeleton program and its worked example of a tied card.
-/
import Derived.Test.YtgcmekonnliemaaGreatDoorRows
import Derived.Test.YtgcmekonnliemaaGreatDoorTie
import Derived.Test.YtgcmekonnliemaaGreatDoorCards
import Derived.WalkKit
import Derived.ProofKit
import Derived.OpenShut
import Derived.LaidMore
import Derived.Lay
import Derived.Stop.Joined
import Derived.SevenTiedAt
import Derived.Test.YtgcmekonnliemaaGreatDoorAePlLaw
import Derived.MakeChecks
import Derived.ChangeMaps5
import Derived.Lib.LaidU8
import Derived.Test.YtgcmekonnliemaaGreatDoorAeArgs
import Derived.Test.YtgcmekonnliemaaGreatDoorAeAbsopPlainRow
namespace Go.AE

/-- where no function of a program starts a goroutine -/
theorem goes_false {P : Program} (h : P.funcs.any Func.goes = false) (f : FuncId) : P.goes f = false := by
  have hf : ∀ (g : FuncId) (fn : Func), P.funcs[g]? = some fn → fn.goes = false := by
    intro g fn hg
    rw [Array.any_eq_false] at h
    obtain ⟨hlt, rfl⟩ := Array.getElem?_eq_some_iff.1 hg
    cases hx : (P.funcs[g]).goes with
    | false => rfl
    | true => exact absurd hx (h g hlt)
  unfold Program.goes
  rw [h, Bool.and_false, Bool.or_false]
  refine Bool.eq_false_iff.2 fun hx => ?_
  simp only [List.any_eq_true] at hx
  obtain ⟨g, _, hg⟩ := hx
  cases he : P.funcs[g]? with
  | none => rw [he] at hg; cases hg
  | some fn =>
    rw [he] at hg
    have := hf g fn he
    simp only [Option.any_some] at hg
    rw [this] at hg
    cases hg

theorem goesBy_false {P : Program} (h : P.funcs.any Func.goes = false) (c : OpenClaim) : c.goesBy P = false := by
  unfold OpenClaim.goesBy Program.goesAt Program.goesFrom
  have e1 : (P.funcNamed c.func).any P.goes = false := by
    cases P.funcNamed c.func with
    | none => rfl
    | some f => exact goes_false h f
  have e2 : P.inits.toList.any P.goes = false := by
    rw [List.any_eq_false]
    intro f _
    rw [goes_false h f]
    decide
  rw [e1, e2]
  cases c.start <;> rfl

end Go.AE

namespace Go.Proofs.YtgcmekonnliemaaGreatDoor
open Go.AE

/-- every call returns true -/
theorem plain_calls {op sa sb : ByteArray} {ka na kb nb : Int} {w : World} (htab : Tab w) (hop : op.size ≤ 9223372036854775807) (ha : fits ka na sa) (hb : fits kb nb sb) : Says op ka na sa kb nb sb w := by
  rcases plain_early htab hop ha hb with h | ⟨h1, h2⟩
  · exact h
  · obtain ⟨kx, nx, hx⟩ := vg_of ha h1
    obtain ⟨ky, ny, hy⟩ := vg_of hb h2
    exact o_any hop htab hx hy

set_option maxRecDepth 100000 in
/-- the table of the powers of ten is read off the row's own list -/
theorem row_tab {W : World} (h : laidMetH Tryz.prog Rows.absopPlainRow.laid W) : Tab W := by
  rw [MakeChecks.laidMetH_plain _ _ _ (by kernel_rfl)] at h
  have hm : Rows.absopPlainRow.laid[2]? = some ("internal/strconv.uint64pow10", Lib.tabData .u64 Lib.pow10Tab) := by kernel_rfl
  obtain ⟨g, t, cs, fuel, p, hg, ht, hvar, hd⟩ := Lib.laidMet.reads h (List.mem_of_getElem? hm)
  obtain rfl := Option.some.inj (g4.symm.trans hg)
  have ht' : (Tryz.prog.globals[4]?).map (·.type) = some 328 := by kernel_rfl
  obtain rfl := Option.some.inj (ht'.symm.trans ht)
  show Lib.TabIs _ _ _ _ _
  unfold Lib.TabIs
  rw [hvar, ← Lib.cells_of_tab (t := 328) (e := 224) (n := 20) (k := .u64) (by kernel_rfl) (by kernel_rfl) (by kernel_rfl) (by kernel_rfl) hd]

end Go.Proofs.YtgcmekonnliemaaGreatDoor

namespace Go.Proofs.YtgcmekonnliemaaGreatDoor.absopPlain
set_option maxRecDepth 100000

theorem funcs_goes : Tryz.prog.funcs.any Func.goes = false := by kernel_rfl

theorem card_goes : false = Rows.absopPlainRow.goesBy Tryz.pinned.checked.prog := (AE.goesBy_false funcs_goes _).symm

end Go.Proofs.YtgcmekonnliemaaGreatDoor.absopPlain

namespace Go.Proofs.YtgcmekonnliemaaGreatDoor.absopPlain
open Go.ChangeShapes Go.WideShapes Go.ChangeAt Go.RowKit

set_option maxRecDepth 100000 in
theorem lifted (os : Os) (started : os.Started) (H : Type) (enc : TypeId × Value → H) :
    ReturnsInHanded {} Tryz.checked os 3 .any (fun w args => (Rows.absopPlainSpec.pre enc Tryz.prog Tryz.f3 [] false w args ∧ laidMetH Tryz.prog Rows.absopPlainRow.laid w) ∧ sizedMet enc Tryz.prog Tryz.f3 (OpenSpec.ofChange Rows.absopPlainSpec) false w args)
      (Rows.absopPlainSpec.post enc Tryz.prog Tryz.f3 false true false false) := by
  refine returnsInHanded_of_change_and (C := Tryz.checked) (X := fun w _ => laidMetH Tryz.prog Rows.absopPlainRow.laid w) (fun _ _ _ hh h => h.of_heap hh) own started (by kernel_rfl) Tryz.func3
    (ChangeSpec.witness_shaped (enc := enc) (C := Tryz.checked) (os := os) (X := fun w _ => laidMetH Tryz.prog Rows.absopPlainRow.laid w) false (World.laidAll Tryz.prog os Rows.absopPlainRow.laid) #[.string ByteArray.empty, AE.vC 0 0 ByteArray.empty, AE.vC 0 0 ByteArray.empty] 8 (World.laidAll_os _ _ _) (World.shaped_of_ZipB (by kernel_rfl) (by kernel_rfl)) (by kernel_rfl) (by kernel_rfl) (by kernel_rfl) (by rw [MakeChecks.laidMetH_plain _ _ _ (by kernel_rfl)]; exact laidMet_laidAll _ (by kernel_rfl) (by kernel_rfl))) ?_
  intro W base args ds gs before hval0 hW _ _ hX _
  have hval : ∀ (j : Nat) t v, Tryz.f3.params[j]? = some t → args[j]? = some v → Value.okWide Tryz.prog W .any base t v := hval0
  have hW' := hW
  obtain ⟨p, q, hA0, hV, rfl, hfz, hnd⟩ := hW
  have hA : DataW.TrodAll enc Tryz.prog W 0 (fun _ => true) true Tryz.f3.params.toList args.toList ds p := hA0
  have hA1 := hA
  rw [Tryz.params3] at hA hval
  obtain ⟨v0, vs0, d0, ds0, p0, q0, hargs, rfl, rfl, h0, r0⟩ := trodAll_cons hA
  obtain ⟨v1, vs1, d1, ds1, p1, q1, rfl, rfl, rfl, h1, r1⟩ := trodAll_cons r0
  obtain ⟨v2, vs2, d2, ds2, p2, q2, rfl, rfl, rfl, h2, r2⟩ := trodAll_cons r1
  obtain ⟨rfl, rfl, rfl⟩ := trodAll_nil r2
  obtain rfl : args = #[v0, v1, v2] := by cases args; simp_all
  obtain ⟨rfl, rfl⟩ := trodVars_none hV
  obtain ⟨s0, rfl, rfl, rfl, w0⟩ := Go.ChangeMaps.open_string Tryz.underlying9 (hval 0 9 v0 rfl rfl) h0
  obtain ⟨k1, n1, s1, rfl, f1⟩ := value_of (hval 1 23 v1 rfl rfl)
  obtain ⟨k2, n2, s2, rfl, f2⟩ := value_of (hval 2 23 v2 rfl rfl)
  have hlt := hW'.lt
  refine (plain_calls (row_tab hX) w0 f1 f2).mono fun e W' ⟨he, hg⟩ => ?_
  subst he
  refine ⟨_, rfl, AE.post_of_below (pa := [] ++ (p1 ++ (p2 ++ []))) (pv := []) hW' (fun _ _ _ => (trodAll_cons_mk (shut_bool Tryz.underlying4 _) trodAll_mk0)) (fun sp hsp => ?_) (fun _ _ => rfl) rfl
    hg (ok_one (by kernel_rfl) rfl (okWide_bool_mk Tryz.underlying4 _))⟩
  exact AE.trodAll_stays laid hg (by kernel_rfl) hA1 (fun x hx => hlt x (by simpa using hx)) fun x hx => hsp x (by simpa using hx)

theorem over : Rows.AbsopPlainSaid :=
  OpenClaim.holds_of_wide 3 Tryz.f3 rfl rfl rfl rfl rfl rfl rfl ⟨rfl, rfl, rfl, rfl, rfl⟩ rfl rfl rfl rfl rfl named Tryz.func3 closed instanced wrapped
    (fun os started H enc _ => lifted os started H enc)

/-- the statement -/
theorem proved : Rows.AbsopPlainCardSaid :=
  Claim7.holds_tied_plain_at .later [] [.data, .data, .data, .data, .data, .pinned] true (true, "aff38355f9ffb5f9f91cac48675e9842b0e7ab146a2b3cb840e81d8b35f3e606") false
    over (fun _ h => by cases h) (by as_aux_lemma => kernel_rfl) (fun _ h => by cases h) absopPlain_row_tie rfl ⟨rfl, rfl⟩ (by as_aux_lemma => kernel_rfl) rfl
    (fun f fn hf hfn => by
      obtain rfl : f = 3 := Option.some.inj (named.symm.trans hf) |>.symm
      obtain rfl : fn = Tryz.f3 := (Option.some.inj (Tryz.func3.symm.trans hfn)).symm
      exact ⟨by as_aux_lemma => kernel_rfl, fun j t ht => by
        rw [Tryz.params3] at ht
        have hm : t ∈ [9, 23, 23] := by simpa using Array.mem_of_getElem? ht
        have hall : ([9, 23, 23].all fun u => !Tryz.prog.wantsStandIn u) = true := by as_aux_lemma => kernel_rfl
        exact (show Tryz.prog.wantsStandIn t = false by simpa using List.all_eq_true.1 hall t hm)⟩)
    card_goes
#print axioms proved
end Go.Proofs.YtgcmekonnliemaaGreatDoor.absopPlain
