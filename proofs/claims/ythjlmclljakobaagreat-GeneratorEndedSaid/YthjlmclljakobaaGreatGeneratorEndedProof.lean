/-
  Proved: for all values first, v and all lists kinds of numbers the call GeneratorEnded(first, v, kinds) returns true and changes nothing that was there before it ('Rows.GeneratorEndedSaid'). No conditions.
  The values are parted into classes (valid or not, their kinds, their lengths); the loop over kinds is walked from state to state (how many results were made, which round); each piece of a walk is evaluated by the kernel with a verified evaluator (the texts AeData to AeLoop). The frame of this text follows the kit's proof-skeleton program.
-/
import Derived.Test.YthjlmclljakobaaGreatRows
import Derived.WalkKit
import Derived.ProofKit
import Derived.OpenShut
import Derived.ChangeSlices
import Derived.Test.YthjlmclljakobaaGreatAeEndLaw
import Derived.Test.YthjlmclljakobaaGreatAeArgs
import Derived.Test.YthjlmclljakobaaGreatAeEndRow
namespace Go.Proofs.YthjlmclljakobaaGreat.generatorEnded
open Go.ChangeShapes Go.WideShapes Go.ChangeAt Go.RowKit

theorem cells3 : Tryz.prog.cellsOf 3 = 1 := by kernel_rfl

set_option maxRecDepth 100000 in
theorem lifted (os : Os) (started : os.Started) (H : Type) (enc : TypeId × Value → H) :
    ReturnsInHanded {} Tryz.checked os 3 .any (Rows.generatorEndedSpec.pre6 enc Tryz.prog Tryz.f3 Rows.generatorEndedRow.domain false) (Rows.generatorEndedSpec.post enc Tryz.prog Tryz.f3 false true false false) := by
  refine returnsInHanded_of_change (C := Tryz.checked) own started (by kernel_rfl) Tryz.func3
    (ChangeSpec.witness6 (enc := enc) (C := Tryz.checked) false ⟨#[], #[AE.vC 0 0 ByteArray.empty, AE.vC 0 0 ByteArray.empty, .slice none 0 0], []⟩ 8 (by kernel_rfl) (by kernel_rfl) (by kernel_rfl) (by kernel_rfl)) ?_
  intro W base args ds gs before hval0 hW hcnd _
  have hval : ∀ (j : Nat) t v, Tryz.f3.params[j]? = some t → args[j]? = some v → Value.okWide Tryz.prog W .any base t v := hval0
  have hW' := hW
  obtain ⟨p, q, hA0, hV, rfl, hfz, hnd⟩ := hW
  have hA : DataW.TrodAll enc Tryz.prog W 0 (fun _ => true) true Tryz.f3.params.toList args.toList ds p := hA0
  have hA1 := hA
  rw [Tryz.params3] at hA hval
  obtain ⟨v0, vs0, d0, ds0, p0, q0, hargs, rfl, rfl, h0, r0⟩ := trodAll_cons hA
  obtain ⟨v1, vs1, d1, ds1, p1, q1, rfl, rfl, rfl, h1, r1⟩ := trodAll_cons r0
  obtain ⟨v2, vs2, d2, ds2, p2, q2, rfl, rfl, rfl, h2, r2⟩ := trodAll_cons r1
  obtain ⟨rfl, rfl, rfl⟩ := trodAll_nil r2
  obtain rfl : args = #[v0, v1, v2] := by cases args; simp_all
  obtain ⟨rfl, rfl⟩ := trodVars_none hV
  obtain ⟨k0, n0, s0, rfl, f0⟩ := value_of (hval 0 23 v0 rfl rfl)
  obtain ⟨k1, n1, s1, rfl, f1⟩ := value_of (hval 1 23 v1 rfl rfl)
  obtain ⟨a, len, cap, rfl⟩ := okWide_slice Tryz.underlying24 (hval 2 24 v2 rfl rfl)
  have hlt := hW'.lt
  have hs : ∃ zs : List Int, (a = none ∧ len = 0) ∨ ∃ A, a = some A ∧ len ≤ cap ∧ cap ≤ 9223372036854775807 ∧ len ≤ zs.length ∧ (∀ i, i < zs.length → W.cell? (A.add i) = some (.int .i64 (zs.getD i 0))) ∧ ∀ n ∈ zs, lo64 ≤ n ∧ n ≤ hi64 := by
    obtain ⟨fuel, hf⟩ := h2
    rcases open_ints Tryz.underlying24 Tryz.underlying3 cells3 hf with ⟨hcs, _⟩ | ⟨A, len', cap', zs, hcs, _, hl, hm, hz, _, hcell, hwf⟩
    · have e : Value.slice a len cap = .slice none 0 0 := by simpa [Value.cells] using hcs
      cases e
      exact ⟨[], .inl ⟨rfl, rfl⟩⟩
    · have e : Value.slice a len cap = .slice (some A) len' cap' := by simpa [Value.cells] using hcs
      cases e
      refine ⟨zs, .inr ⟨A, rfl, hl, hm, by rw [hz]; split <;> omega, hcell, fun n hn => ?_⟩⟩
      have := hwf n hn
      simp only [Lit.wf, Bool.and_eq_true, decide_eq_true_eq] at this
      exact ⟨by have h := this.1; rw [← AE.kLo_eq] at h; exact h, by have h := this.2; rw [← AE.kHi_eq] at h; exact h⟩
  obtain ⟨zs, hs⟩ := hs
  refine (ended_all f0 f1 hs).mono fun e W' ⟨he, hg⟩ => ?_
  subst he
  refine ⟨_, rfl, AE.post_of_below (pa := p0 ++ (p1 ++ (p2 ++ []))) (pv := []) hW' (fun _ _ _ => (trodAll_cons_mk (shut_bool Tryz.underlying4 _) trodAll_mk0)) (fun sp hsp => ?_) (fun _ _ => rfl) rfl
    hg (ok_one (by kernel_rfl) rfl (okWide_bool_mk Tryz.underlying4 _))⟩
  exact AE.trodAll_stays laid hg (by kernel_rfl) hA1 (fun x hx => hlt x (by simpa using hx)) fun x hx => hsp x (by simpa using hx)

theorem over : Rows.generatorEndedRow.holds Tryz.pinned (OpenSpec.ofChange Rows.generatorEndedSpec) :=
  OpenClaim.holds_of_wide 3 Tryz.f3 rfl rfl rfl rfl rfl rfl rfl ⟨rfl, rfl, rfl, rfl, rfl⟩ rfl rfl rfl rfl rfl named Tryz.func3 closed instanced wrapped
    (fun os started H enc _ => lifted os started H enc)

/-- the statement -/
theorem proved : Rows.GeneratorEndedSaid :=
  over
#print axioms proved
end Go.Proofs.YthjlmclljakobaaGreat.generatorEnded
