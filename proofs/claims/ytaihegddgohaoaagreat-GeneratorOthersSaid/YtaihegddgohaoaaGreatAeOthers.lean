/-
  The law GeneratorOthers, class by class, by the kernel.
-/
import Derived.Test.YtaihegddgohaoaaGreatAeGoes
import Derived.Test.YtaihegddgohaoaaGreatAeMay
namespace Go.Proofs.YtaihegddgohaoaaGreat
open Go.AE
set_option maxRecDepth 100000

def plain : Cl := ⟨0, 6, 0, 1000, true⟩
def object : Cl := ⟨7, 7, 0, 1000, true⟩
def eighth : Cl := ⟨8, 8, 0, 1000, true⟩
def inner : Cl := ⟨9, 9, 0, 1000, true⟩
def long : Cl := ⟨0, 9, 1001, most, true⟩

theorem cl_others {k n : Int} {s : ByteArray} (hf : fits k n s) : bad0.has k n s ∨ plain.has k n s ∨ object.has k n s ∨ eighth.has k n s ∨ inner.has k n s ∨ long.has k n s := by
  obtain ⟨h1, h2, h3⟩ := hf
  cases hm : mayP k n s.size with
  | false => exact .inl ⟨h1.1, h1.2, Nat.zero_le _, h3, hm⟩
  | true =>
    have hk := mayP_kind hm
    right
    by_cases d : s.size ≤ 1000
    · by_cases c : k ≤ 6
      · exact .inl ⟨hk.1, c, Nat.zero_le _, d, hm⟩
      · by_cases c7 : k = 7
        · exact .inr (.inl ⟨by show (7 : Int) ≤ k; omega, by show k ≤ 7; omega, Nat.zero_le _, d, hm⟩)
        · by_cases c8 : k = 8
          · exact .inr (.inr (.inl ⟨by show (8 : Int) ≤ k; omega, by show k ≤ 8; omega, Nat.zero_le _, d, hm⟩))
          · exact .inr (.inr (.inr (.inl ⟨by show (9 : Int) ≤ k; omega, by show k ≤ 9; omega, Nat.zero_le _, d, hm⟩)))
    · exact .inr (.inr (.inr (.inr ⟨hk.1, hk.2, by show 1001 ≤ s.size; omega, h3, hm⟩)))

noncomputable def knO (c : Cl) : List Known := [⟨6, [c.av 0], .bool c.may⟩, ⟨7, [], .bool true⟩]

theorem runO0 : evSm env (knO bad0) [] 300 100 (.fn 3) [bad0.av 0, nA 2 lo64 hi64] ⟨.nil, 0, [], []⟩ (fun v _ => sameV v (.bool true)) = true := by kernel_rfl
theorem runO1 : evSm env (knO plain) [] 300 100 (.fn 3) [plain.av 0, nA 2 lo64 hi64] ⟨.nil, 0, [], []⟩ (fun v _ => sameV v (.bool true)) = true := by kernel_rfl
theorem runO2 : evSm env (knO object) [] 300 100 (.fn 3) [object.av 0, nA 2 lo64 hi64] ⟨.nil, 0, [], []⟩ (fun v _ => sameV v (.bool true)) = true := by kernel_rfl
theorem runO3 : evSm env (knO eighth) [] 300 100 (.fn 3) [eighth.av 0, nA 2 lo64 hi64] ⟨.nil, 0, [], []⟩ (fun v _ => sameV v (.bool true)) = true := by kernel_rfl
theorem runO4 : evSm env (knO inner) [] 300 100 (.fn 3) [inner.av 0, nA 2 lo64 hi64] ⟨.nil, 0, [], []⟩ (fun v _ => sameV v (.bool true)) = true := by kernel_rfl
theorem runO5 : evSm env (knO long) [] 300 100 (.fn 3) [long.av 0, nA 2 lo64 hi64] ⟨.nil, 0, [], []⟩ (fun v _ => sameV v (.bool true)) = true := by kernel_rfl

theorem others_ret {k n m : Int} {s : ByteArray} (hf : fits k n s) (hm : lo64 ≤ m ∧ m ≤ hi64) : AE.Returns env.P 3 [vC k n s, .int .i64 m] (.bool true) := by
  have fin : ∀ c : Cl, c.has k n s → evSm env (knO c) [] 300 100 (.fn 3) [c.av 0, nA 2 lo64 hi64] ⟨.nil, 0, [], []⟩ (fun v _ => sameV v (.bool true)) = true → AE.Returns env.P 3 [vC k n s, .int .i64 m] (.bool true) := by
    intro c hc hrun
    let Y : Sy := ⟨fun i => match i with | 0 => k | 1 => n | _ => m, fun _ => s⟩
    have hv : ∀ ρ, conc Y ρ (c.av 0) = some (vC k n s) := fun ρ => conc_vA (Y := Y) (i := 0) (j := 1) (s := 0) hc.1 hc.2.1 hf.2.1.1 hf.2.1.2 hc.2.2.1 hc.2.2.2.1
    have hmay : Gives Y env 6 [c.av 0] (.bool c.may) := by
      have := may_ret k n s hf.1 hf.2.1 hf.2.2
      rw [hc.2.2.2.2] at this
      exact Gives.of_returns this (concs_cons.2 ⟨_, _, hv _, rfl, rfl⟩) rfl
    have hkn : KnownOk Y env (knO c) := (KnownOk.nil.cons (by kernel_rfl) (goes_gives Y)).cons (by kernel_rfl) hmay
    exact Gives.returns (gives_of_sums (Y := Y) (env_ok _) hkn SumsOk.nil rfl hrun) (concs_cons.2 ⟨_, _, hv _, concs_cons.2 ⟨_, _, conc_nA (Y := Y) (i := 2) hm.1 hm.2, rfl, rfl⟩, rfl⟩) rfl
  rcases cl_others hf with c | c | c | c | c | c
  · exact fin _ c runO0
  · exact fin _ c runO1
  · exact fin _ c runO2
  · exact fin _ c runO3
  · exact fin _ c runO4
  · exact fin _ c runO5

end Go.Proofs.YtaihegddgohaoaaGreat
