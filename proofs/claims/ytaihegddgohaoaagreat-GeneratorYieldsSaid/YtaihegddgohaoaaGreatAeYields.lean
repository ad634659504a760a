/-
  The law GeneratorYields, class by class, by the kernel.
-/
import Derived.Test.YtaihegddgohaoaaGreatAeGoes
import Derived.Test.YtaihegddgohaoaaGreatAeMay
import Derived.Test.YtaihegddgohaoaaGreatAeYieldsNew
namespace Go.Proofs.YtaihegddgohaoaaGreat
open Go.AE
set_option maxRecDepth 100000

def good : Cl := ⟨0, 5, 0, 500, true⟩
def bad1 : Cl := ⟨6, 9, 0, most, true⟩
def bad2 : Cl := ⟨0, 5, 501, most, true⟩

theorem cl_split {k n : Int} {s : ByteArray} (hf : fits k n s) : good.has k n s ∨ bad0.has k n s ∨ bad1.has k n s ∨ bad2.has k n s := by
  obtain ⟨h1, h2, h3⟩ := hf
  cases hm : mayP k n s.size with
  | false => exact .inr (.inl ⟨h1.1, h1.2, Nat.zero_le _, h3, hm⟩)
  | true =>
    have := mayP_kind hm
    by_cases c : 6 ≤ k
    · exact .inr (.inr (.inl ⟨c, this.2, Nat.zero_le _, h3, hm⟩))
    · by_cases d : s.size ≤ 500
      · exact .inl ⟨this.1, by show k ≤ 5; omega, Nat.zero_le _, d, hm⟩
      · exact .inr (.inr (.inr ⟨this.1, by show k ≤ 5; omega, by show 501 ≤ s.size; omega, h3, hm⟩))

/-- what is known: of the first value, of the second, of the third; the example -/
noncomputable def kn1 (c : Cl) : List Known := [⟨6, [c.av 0], .bool c.may⟩, ⟨7, [], .bool true⟩]
noncomputable def kn2 (c : Cl) : List Known := [⟨6, [good.av 0], .bool true⟩, ⟨6, [c.av 1], .bool c.may⟩, ⟨7, [], .bool true⟩]
noncomputable def kn3 (c : Cl) : List Known := [⟨6, [good.av 0], .bool true⟩, ⟨6, [good.av 1], .bool true⟩, ⟨6, [c.av 2], .bool c.may⟩, ⟨7, [], .bool true⟩]
noncomputable def kn4 : List Known := [⟨6, [good.av 0], .bool true⟩, ⟨6, [good.av 1], .bool true⟩, ⟨6, [good.av 2], .bool true⟩, ⟨130, [good.av 0], .bool true⟩, ⟨130, [good.av 1], .bool true⟩, ⟨130, [good.av 2], .bool true⟩, ⟨7, [], .bool true⟩]

theorem run10 : evSm env (kn1 bad0) [] 300 100 (.fn 4) [bad0.av 0, any.av 1, any.av 2] ⟨.nil, 0, [], []⟩ (fun v _ => sameV v (.bool true)) = true := by kernel_rfl
theorem run11 : evSm env (kn1 bad1) [] 300 100 (.fn 4) [bad1.av 0, any.av 1, any.av 2] ⟨.nil, 0, [], []⟩ (fun v _ => sameV v (.bool true)) = true := by kernel_rfl
theorem run12 : evSm env (kn1 bad2) [] 300 100 (.fn 4) [bad2.av 0, any.av 1, any.av 2] ⟨.nil, 0, [], []⟩ (fun v _ => sameV v (.bool true)) = true := by kernel_rfl
theorem run20 : evSm env (kn2 bad0) [] 300 100 (.fn 4) [good.av 0, bad0.av 1, any.av 2] ⟨.nil, 0, [], []⟩ (fun v _ => sameV v (.bool true)) = true := by kernel_rfl
theorem run21 : evSm env (kn2 bad1) [] 300 100 (.fn 4) [good.av 0, bad1.av 1, any.av 2] ⟨.nil, 0, [], []⟩ (fun v _ => sameV v (.bool true)) = true := by kernel_rfl
theorem run22 : evSm env (kn2 bad2) [] 300 100 (.fn 4) [good.av 0, bad2.av 1, any.av 2] ⟨.nil, 0, [], []⟩ (fun v _ => sameV v (.bool true)) = true := by kernel_rfl
theorem run30 : evSm env (kn3 bad0) [] 300 100 (.fn 4) [good.av 0, good.av 1, bad0.av 2] ⟨.nil, 0, [], []⟩ (fun v _ => sameV v (.bool true)) = true := by kernel_rfl
theorem run31 : evSm env (kn3 bad1) [] 300 100 (.fn 4) [good.av 0, good.av 1, bad1.av 2] ⟨.nil, 0, [], []⟩ (fun v _ => sameV v (.bool true)) = true := by kernel_rfl
theorem run32 : evSm env (kn3 bad2) [] 300 100 (.fn 4) [good.av 0, good.av 1, bad2.av 2] ⟨.nil, 0, [], []⟩ (fun v _ => sameV v (.bool true)) = true := by kernel_rfl
theorem run4 : evSm env kn4 [qYields] 300 100 (.fn 4) [good.av 0, good.av 1, good.av 2] ⟨.nil, 0, [], []⟩ (fun v _ => sameV v (.bool true)) = true := by kernel_rfl

section
variable {k0 n0 k1 n1 k2 n2 : Int} {s0 s1 s2 : ByteArray}

theorem conc0 {c : Cl} (hc : c.has k0 n0 s0) (hf : fits k0 n0 s0) (ρ : Rho) : conc (sy3 k0 n0 s0 k1 n1 s1 k2 n2 s2) ρ (c.av 0) = some (vC k0 n0 s0) := conc_vA (Y := sy3 k0 n0 s0 k1 n1 s1 k2 n2 s2) (i := 0) (j := 1) (s := 0) hc.1 hc.2.1 hf.2.1.1 hf.2.1.2 hc.2.2.1 hc.2.2.2.1
theorem conc1 {c : Cl} (hc : c.has k1 n1 s1) (hf : fits k1 n1 s1) (ρ : Rho) : conc (sy3 k0 n0 s0 k1 n1 s1 k2 n2 s2) ρ (c.av 1) = some (vC k1 n1 s1) := conc_vA (Y := sy3 k0 n0 s0 k1 n1 s1 k2 n2 s2) (i := 2) (j := 3) (s := 1) hc.1 hc.2.1 hf.2.1.1 hf.2.1.2 hc.2.2.1 hc.2.2.2.1
theorem conc2 {c : Cl} (hc : c.has k2 n2 s2) (hf : fits k2 n2 s2) (ρ : Rho) : conc (sy3 k0 n0 s0 k1 n1 s1 k2 n2 s2) ρ (c.av 2) = some (vC k2 n2 s2) := conc_vA (Y := sy3 k0 n0 s0 k1 n1 s1 k2 n2 s2) (i := 4) (j := 5) (s := 2) hc.1 hc.2.1 hf.2.1.1 hf.2.1.2 hc.2.2.1 hc.2.2.2.1

theorem any1 (hf : fits k1 n1 s1) (ρ : Rho) : conc (sy3 k0 n0 s0 k1 n1 s1 k2 n2 s2) ρ (any.av 1) = some (vC k1 n1 s1) := conc_vA (Y := sy3 k0 n0 s0 k1 n1 s1 k2 n2 s2) (i := 2) (j := 3) (s := 1) hf.1.1 hf.1.2 hf.2.1.1 hf.2.1.2 (Nat.zero_le _) hf.2.2
theorem any2 (hf : fits k2 n2 s2) (ρ : Rho) : conc (sy3 k0 n0 s0 k1 n1 s1 k2 n2 s2) ρ (any.av 2) = some (vC k2 n2 s2) := conc_vA (Y := sy3 k0 n0 s0 k1 n1 s1 k2 n2 s2) (i := 4) (j := 5) (s := 2) hf.1.1 hf.1.2 hf.2.1.1 hf.2.1.2 (Nat.zero_le _) hf.2.2

theorem may_gives {Y : Sy} {k n : Int} {s : ByteArray} {c : Cl} {i : Nat} (hc : c.has k n s) (hf : fits k n s) (hv : ∀ ρ, conc Y ρ (c.av i) = some (vC k n s)) : Gives Y env 6 [c.av i] (.bool c.may) := by
  have := may_ret k n s hf.1 hf.2.1 hf.2.2
  rw [hc.2.2.2.2] at this
  exact Gives.of_returns this (concs_cons.2 ⟨_, _, hv _, rfl, rfl⟩) rfl

theorem cmay_gives {Y : Sy} {k n : Int} {s : ByteArray} {i : Nat} (hc : good.has k n s) (hv : ∀ ρ, conc Y ρ (good.av i) = some (vC k n s)) : Gives Y env 130 [good.av i] (.bool true) :=
  Gives.of_returns (cmay_ret k n s ⟨hc.1, hc.2.1⟩ hc.2.2.2.2) (concs_cons.2 ⟨_, _, hv _, rfl, rfl⟩) rfl

theorem has6 : hasBody env 6 = true := by kernel_rfl
theorem has7 : hasBody env 7 = true := by kernel_rfl
theorem has130 : hasBody env 130 = true := by kernel_rfl

theorem yields_ret (f0 : fits k0 n0 s0) (f1 : fits k1 n1 s1) (f2 : fits k2 n2 s2) : AE.Returns env.P 4 [vC k0 n0 s0, vC k1 n1 s1, vC k2 n2 s2] (.bool true) := by
  have e7 : ∀ Y, KnownOk Y env [⟨7, [], .bool true⟩] := fun Y => KnownOk.nil.cons has7 (goes_gives Y)
  have bad : ∀ c : Cl, c.has k0 n0 s0 → evSm env (kn1 c) [] 300 100 (.fn 4) [c.av 0, any.av 1, any.av 2] ⟨.nil, 0, [], []⟩ (fun v _ => sameV v (.bool true)) = true → AE.Returns env.P 4 [vC k0 n0 s0, vC k1 n1 s1, vC k2 n2 s2] (.bool true) := fun c hc hrun =>
    Gives.returns (gives_of_sums (Y := sy3 k0 n0 s0 k1 n1 s1 k2 n2 s2) (env_ok _) ((e7 _).cons has6 (may_gives hc f0 (conc0 hc f0))) SumsOk.nil rfl hrun) (concs_cons.2 ⟨_, _, conc0 hc f0 _, concs_cons.2 ⟨_, _, any1 f1 _, concs_cons.2 ⟨_, _, any2 f2 _, rfl, rfl⟩, rfl⟩, rfl⟩) rfl
  rcases cl_split f0 with g0 | c | c | c
  · have bad : ∀ c : Cl, c.has k1 n1 s1 → evSm env (kn2 c) [] 300 100 (.fn 4) [good.av 0, c.av 1, any.av 2] ⟨.nil, 0, [], []⟩ (fun v _ => sameV v (.bool true)) = true → AE.Returns env.P 4 [vC k0 n0 s0, vC k1 n1 s1, vC k2 n2 s2] (.bool true) := fun c hc hrun =>
      Gives.returns (gives_of_sums (Y := sy3 k0 n0 s0 k1 n1 s1 k2 n2 s2) (env_ok _) (((e7 _).cons has6 (may_gives hc f1 (conc1 hc f1))).cons has6 (may_gives g0 f0 (conc0 g0 f0))) SumsOk.nil rfl hrun) (concs_cons.2 ⟨_, _, conc0 g0 f0 _, concs_cons.2 ⟨_, _, conc1 hc f1 _, concs_cons.2 ⟨_, _, any2 f2 _, rfl, rfl⟩, rfl⟩, rfl⟩) rfl
    rcases cl_split f1 with g1 | c | c | c
    · have bad : ∀ c : Cl, c.has k2 n2 s2 → evSm env (kn3 c) [] 300 100 (.fn 4) [good.av 0, good.av 1, c.av 2] ⟨.nil, 0, [], []⟩ (fun v _ => sameV v (.bool true)) = true → AE.Returns env.P 4 [vC k0 n0 s0, vC k1 n1 s1, vC k2 n2 s2] (.bool true) := fun c hc hrun =>
        Gives.returns (gives_of_sums (Y := sy3 k0 n0 s0 k1 n1 s1 k2 n2 s2) (env_ok _) ((((e7 _).cons has6 (may_gives hc f2 (conc2 hc f2))).cons has6 (may_gives g1 f1 (conc1 g1 f1))).cons has6 (may_gives g0 f0 (conc0 g0 f0))) SumsOk.nil rfl hrun) (concs_cons.2 ⟨_, _, conc0 g0 f0 _, concs_cons.2 ⟨_, _, conc1 g1 f1 _, concs_cons.2 ⟨_, _, conc2 hc f2 _, rfl, rfl⟩, rfl⟩, rfl⟩) rfl
      rcases cl_split f2 with g2 | c | c | c
      · exact Gives.returns (gives_of_sums (Y := sy3 k0 n0 s0 k1 n1 s1 k2 n2 s2) (env_ok _)
          (((((((e7 _).cons has130 (cmay_gives g2 (conc2 g2 f2))).cons has130 (cmay_gives g1 (conc1 g1 f1))).cons has130 (cmay_gives g0 (conc0 g0 f0))).cons has6 (may_gives g2 f2 (conc2 g2 f2))).cons has6 (may_gives g1 f1 (conc1 g1 f1))).cons has6 (may_gives g0 f0 (conc0 g0 f0)))
          (SumsOk.nil.cons (qYields_ok _)) rfl run4) (concs_cons.2 ⟨_, _, conc0 g0 f0 _, concs_cons.2 ⟨_, _, conc1 g1 f1 _, concs_cons.2 ⟨_, _, conc2 g2 f2 _, rfl, rfl⟩, rfl⟩, rfl⟩) rfl
      · exact bad _ c run30
      · exact bad _ c run31
      · exact bad _ c run32
    · exact bad _ c run20
    · exact bad _ c run21
    · exact bad _ c run22
  · exact bad _ c run10
  · exact bad _ c run11
  · exact bad _ c run12

end
end Go.Proofs.YtaihegddgohaoaaGreat
