/-
  Proved: for all values a, b, c the call GeneratorYields(a, b, c) returns true and changes nothing that was there before it ('Rows.GeneratorYieldsSaid'). No conditions.
  The values are parted into classes (valid or not, their kinds, their lengths); each class is evaluated by the kernel with a verified evaluator (the texts AeData to AeSum). The frame of this text follows the kit's proof-skeleton program.
-/
import Derived.Test.YtaihegddgohaoaaGreatRows
import Derived.WalkKit
import Derived.ProofKit
import Derived.OpenShut
import Derived.Test.YtaihegddgohaoaaGreatAeYields
import Derived.Test.YtaihegddgohaoaaGreatAeArgs
import Derived.Test.YtaihegddgohaoaaGreatAeYieldsRow
namespace Go.Proofs.YtaihegddgohaoaaGreat.generatorYields
open Go.ChangeShapes Go.WideShapes Go.ChangeAt Go.RowKit

set_option maxRecDepth 100000 in
theorem lifted (os : Os) (started : os.Started) (H : Type) (enc : TypeId × Value → H) :
    ReturnsInHanded {} Tryz.checked os 4 .any (Rows.generatorYieldsSpec.pre6 enc Tryz.prog Tryz.f4 Rows.generatorYieldsRow.domain false) (Rows.generatorYieldsSpec.post enc Tryz.prog Tryz.f4 false true false false) := by
  refine returnsInHanded_of_change (C := Tryz.checked) own started (by kernel_rfl) Tryz.func4
    (ChangeSpec.witness6 (enc := enc) (C := Tryz.checked) false ⟨#[], #[AE.vC 0 0 ByteArray.empty, AE.vC 0 0 ByteArray.empty, AE.vC 0 0 ByteArray.empty], []⟩ 8 (by kernel_rfl) (by kernel_rfl) (by kernel_rfl) (by kernel_rfl)) ?_
  intro W base args ds gs before hval0 hW hcnd _
  have hval : ∀ (j : Nat) t v, Tryz.f4.params[j]? = some t → args[j]? = some v → Value.okWide Tryz.prog W .any base t v := hval0
  have hW' := hW
  obtain ⟨p, q, hA0, hV, rfl, hfz, hnd⟩ := hW
  have hA : DataW.TrodAll enc Tryz.prog W 0 (fun _ => true) true Tryz.f4.params.toList args.toList ds p := hA0
  have hA1 := hA
  rw [Tryz.params4] at hA hval
  obtain ⟨v0, vs0, d0, ds0, p0, q0, hargs, rfl, rfl, h0, r0⟩ := trodAll_cons hA
  obtain ⟨v1, vs1, d1, ds1, p1, q1, rfl, rfl, rfl, h1, r1⟩ := trodAll_cons r0
  obtain ⟨v2, vs2, d2, ds2, p2, q2, rfl, rfl, rfl, h2, r2⟩ := trodAll_cons r1
  obtain ⟨rfl, rfl, rfl⟩ := trodAll_nil r2
  obtain rfl : args = #[v0, v1, v2] := by cases args; simp_all
  obtain ⟨rfl, rfl⟩ := trodVars_none hV
  obtain ⟨k0, n0, s0, rfl, f0⟩ := value_of (hval 0 23 v0 rfl rfl)
  obtain ⟨k1, n1, s1, rfl, f1⟩ := value_of (hval 1 23 v1 rfl rfl)
  obtain ⟨k2, n2, s2, rfl, f2⟩ := value_of (hval 2 23 v2 rfl rfl)
  have hlt := hW'.lt
  refine (yields_ret f0 f1 f2 W).mono fun e W' ⟨he, hg⟩ => ?_
  subst he
  refine ⟨_, rfl, AE.post_of_below (pa := p0 ++ (p1 ++ (p2 ++ []))) (pv := []) hW' (fun _ _ _ => (trodAll_cons_mk (shut_bool Tryz.underlying4 _) trodAll_mk0)) (fun sp hsp => ?_) (fun _ _ => rfl) rfl
    hg (ok_one (by kernel_rfl) rfl (okWide_bool_mk Tryz.underlying4 _))⟩
  exact AE.trodAll_stays laid hg (by kernel_rfl) hA1 (fun x hx => hlt x (by simpa using hx)) fun x hx => hsp x (by simpa using hx)

theorem over : Rows.generatorYieldsRow.holds Tryz.pinned (OpenSpec.ofChange Rows.generatorYieldsSpec) :=
  OpenClaim.holds_of_wide 4 Tryz.f4 rfl rfl rfl rfl rfl rfl rfl ⟨rfl, rfl, rfl, rfl, rfl⟩ rfl rfl rfl rfl rfl named Tryz.func4 closed instanced wrapped
    (fun os started H enc _ => lifted os started H enc)

/-- the statement -/
theorem proved : Rows.GeneratorYieldsSaid :=
  over
#print axioms proved
end Go.Proofs.YtaihegddgohaoaaGreat.generatorYields
