/-
  Proved: for every value v and every number kind the call GeneratorOthers(v, kind) returns true and changes nothing that was there before it ('Rows.GeneratorOthersSaid'). No conditions.
  The values are parted into classes (valid or not, their kinds, their lengths); each class is evaluated by the kernel with a verified evaluator (the texts AeData to AeSum). The frame of this text follows the kit's proof-skeleton program.
-/
import Derived.Test.YtaihegddgohaoaaGreatRows
import Derived.WalkKit
import Derived.ProofKit
import Derived.OpenShut
import Derived.Test.YtaihegddgohaoaaGreatAeOthers
import Derived.Test.YtaihegddgohaoaaGreatAeArgs
import Derived.Test.YtaihegddgohaoaaGreatAeOthersRow
namespace Go.Proofs.YtaihegddgohaoaaGreat.generatorOthers
open Go.ChangeShapes Go.WideShapes Go.ChangeAt Go.RowKit

theorem int_fits {m : Int} (h : (Lit.int .i64 m).wf = true) : lo64 ≤ m ∧ m ≤ hi64 := by
  simp only [Lit.wf, Bool.and_eq_true, decide_eq_true_eq] at h
  have e1 : IntKind.i64.min = lo64 := by decide
  have e2 : IntKind.i64.max = hi64 := by decide
  rw [e1, e2] at h
  exact h

set_option maxRecDepth 100000 in
theorem lifted (os : Os) (started : os.Started) (H : Type) (enc : TypeId × Value → H) :
    ReturnsInHanded {} Tryz.checked os 3 .any (Rows.generatorOthersSpec.pre6 enc Tryz.prog Tryz.f3 Rows.generatorOthersRow.domain false) (Rows.generatorOthersSpec.post enc Tryz.prog Tryz.f3 false true false false) := by
  refine returnsInHanded_of_change (C := Tryz.checked) own started (by kernel_rfl) Tryz.func3
    (ChangeSpec.witness6 (enc := enc) (C := Tryz.checked) false ⟨#[], #[AE.vC 0 0 ByteArray.empty, .int .i64 0], []⟩ 8 (by kernel_rfl) (by kernel_rfl) (by kernel_rfl) (by kernel_rfl)) ?_
  intro W base args ds gs before hval0 hW hcnd _
  have hval : ∀ (j : Nat) t v, Tryz.f3.params[j]? = some t → args[j]? = some v → Value.okWide Tryz.prog W .any base t v := hval0
  have hW' := hW
  obtain ⟨p, q, hA0, hV, rfl, hfz, hnd⟩ := hW
  have hA : DataW.TrodAll enc Tryz.prog W 0 (fun _ => true) true Tryz.f3.params.toList args.toList ds p := hA0
  have hA1 := hA
  rw [Tryz.params3] at hA hval
  obtain ⟨v0, vs0, d0, ds0, p0, q0, hargs, rfl, rfl, h0, r0⟩ := trodAll_cons hA
  obtain ⟨v1, vs1, d1, ds1, p1, q1, rfl, rfl, rfl, h1, r1⟩ := trodAll_cons r0
  obtain ⟨rfl, rfl, rfl⟩ := trodAll_nil r1
  obtain rfl : args = #[v0, v1] := by cases args; simp_all
  obtain ⟨rfl, rfl⟩ := trodVars_none hV
  obtain ⟨k0, n0, s0, rfl, f0⟩ := value_of (hval 0 23 v0 rfl rfl)
  obtain ⟨m, rfl, rfl, rfl, w1⟩ := open_int Tryz.underlying3 (hval 1 3 v1 rfl rfl) h1
  have hlt := hW'.lt
  refine (others_ret f0 (int_fits w1) W).mono fun e W' ⟨he, hg⟩ => ?_
  subst he
  refine ⟨_, rfl, AE.post_of_below (pa := p0 ++ ([] ++ [])) (pv := []) hW' (fun _ _ _ => (trodAll_cons_mk (shut_bool Tryz.underlying4 _) trodAll_mk0)) (fun sp hsp => ?_) (fun _ _ => rfl) rfl
    hg (ok_one (by kernel_rfl) rfl (okWide_bool_mk Tryz.underlying4 _))⟩
  exact AE.trodAll_stays laid hg (by kernel_rfl) hA1 (fun x hx => hlt x (by simpa using hx)) fun x hx => hsp x (by simpa using hx)

theorem over : Rows.generatorOthersRow.holds Tryz.pinned (OpenSpec.ofChange Rows.generatorOthersSpec) :=
  OpenClaim.holds_of_wide 3 Tryz.f3 rfl rfl rfl rfl rfl rfl rfl ⟨rfl, rfl, rfl, rfl, rfl⟩ rfl rfl rfl rfl rfl named Tryz.func3 closed instanced wrapped
    (fun os started H enc _ => lifted os started H enc)

/-- the statement -/
theorem proved : Rows.GeneratorOthersSaid :=
  over
#print axioms proved
end Go.Proofs.YtaihegddgohaoaaGreat.generatorOthers
