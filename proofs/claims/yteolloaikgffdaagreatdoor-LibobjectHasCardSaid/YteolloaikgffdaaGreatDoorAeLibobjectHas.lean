/-
  The law LibobjectHas, class by class, by the kernel.
-/
import Derived.Test.YteolloaikgffdaaGreatDoorAeGoes
import Derived.Test.YteolloaikgffdaaGreatDoorAeMay
namespace Go.Proofs.YteolloaikgffdaaGreatDoor
open Go.AE
set_option maxRecDepth 100000

def good : Cl := ⟨0, 5, 0, 1000, true⟩
def high : Cl := ⟨6, 9, 0, most, true⟩
def long : Cl := ⟨0, 5, 1001, most, true⟩

theorem cl_split {k n : Int} {s : ByteArray} (hf : fits k n s) : good.has k n s ∨ bad0.has k n s ∨ high.has k n s ∨ long.has k n s := by
  obtain ⟨h1, h2, h3⟩ := hf
  cases hm : mayP k n s.size with
  | false => exact .inr (.inl ⟨h1.1, h1.2, Nat.zero_le _, h3, hm⟩)
  | true =>
    have := mayP_kind hm
    by_cases c : 6 ≤ k
    · exact .inr (.inr (.inl ⟨c, this.2, Nat.zero_le _, h3, hm⟩))
    · by_cases d : s.size ≤ 1000
      · exact .inl ⟨this.1, by show k ≤ 5; omega, Nat.zero_le _, d, hm⟩
      · exact .inr (.inr (.inr ⟨this.1, by show k ≤ 5; omega, by show 1001 ≤ s.size; omega, h3, hm⟩))

noncomputable def knH (c : Cl) : List Known := [⟨5, [c.av 0], .bool c.may⟩, ⟨6, [], .bool true⟩]

theorem run_bad0 : evSm env (knH bad0) goesSums 300 100 (.fn 3) [mkS .i64 (.var 2) (lo64) (hi64), bad0.av 0] ⟨.nil, 0, [], []⟩ (fun v _ => sameV v (.bool true)) = true := by kernel_rfl
theorem run_high : evSm env (knH high) goesSums 300 100 (.fn 3) [mkS .i64 (.var 2) (lo64) (hi64), high.av 0] ⟨.nil, 0, [], []⟩ (fun v _ => sameV v (.bool true)) = true := by kernel_rfl
theorem run_long : evSm env (knH long) goesSums 300 100 (.fn 3) [mkS .i64 (.var 2) (lo64) (hi64), long.av 0] ⟨.nil, 0, [], []⟩ (fun v _ => sameV v (.bool true)) = true := by kernel_rfl
theorem run_low : evSm env (knH good) goesSums 300 100 (.fn 3) [mkS .i64 (.var 2) (lo64) (0), good.av 0] ⟨.nil, 0, [], []⟩ (fun v _ => sameV v (.bool true)) = true := by kernel_rfl
theorem run_one : evSm env (knH good) goesSums 300 100 (.fn 3) [mkS .i64 (.var 2) (1) (20), good.av 0] ⟨.nil, 0, [], []⟩ (fun v _ => sameV v (.bool true)) = true := by kernel_rfl
theorem run_mid : evSm env (knH good) goesSums 300 100 (.fn 3) [mkS .i64 (.var 2) (21) (21), good.av 0] ⟨.nil, 0, [], []⟩ (fun v _ => sameV v (.bool true)) = true := by kernel_rfl
theorem run_two : evSm env (knH good) goesSums 300 100 (.fn 3) [mkS .i64 (.var 2) (22) (34), good.av 0] ⟨.nil, 0, [], []⟩ (fun v _ => sameV v (.bool true)) = true := by kernel_rfl
theorem run_top : evSm env (knH good) goesSums 300 100 (.fn 3) [mkS .i64 (.var 2) (35) (hi64), good.av 0] ⟨.nil, 0, [], []⟩ (fun v _ => sameV v (.bool true)) = true := by kernel_rfl

theorem has_may : hasBody env 5 = true := by kernel_rfl
theorem has_goes : hasBody env 6 = true := by kernel_rfl

theorem libobjectHas_ret {m k n : Int} {s : ByteArray} (hm : lo64 ≤ m ∧ m ≤ hi64) (hf : fits k n s) : AE.Returns env.P 3 [.int .i64 m, vC k n s] (.bool true) := by
  let Y : Sy := ⟨fun i => match i with | 0 => k | 1 => n | _ => m, fun _ => s⟩
  have hv : ∀ c : Cl, c.has k n s → ∀ ρ, conc Y ρ (c.av 0) = some (vC k n s) := fun c hc ρ => conc_vA (Y := Y) (i := 0) (j := 1) (s := 0) hc.1 hc.2.1 hf.2.1.1 hf.2.1.2 hc.2.2.1 hc.2.2.2.1
  have hkn : ∀ c : Cl, c.has k n s → KnownOk Y env (knH c) := fun c hc => by
    have := may_ret k n s hf.1 hf.2.1 hf.2.2
    rw [hc.2.2.2.2] at this
    exact (KnownOk.nil.cons has_goes (goes_gives Y)).cons has_may (Gives.of_returns this (concs_cons.2 ⟨_, _, hv c hc _, rfl, rfl⟩) rfl)
  have fin : ∀ (c : Cl) (a b : Int), c.has k n s → a ≤ m → m ≤ b → evSm env (knH c) goesSums 300 100 (.fn 3) [mkS .i64 (.var 2) a b, c.av 0] ⟨.nil, 0, [], []⟩ (fun v _ => sameV v (.bool true)) = true → AE.Returns env.P 3 [.int .i64 m, vC k n s] (.bool true) := fun c a b hc ha hb hrun =>
    Gives.returns (gives_of_sums (Y := Y) (env_ok _) (hkn c hc) (goesSums_ok Y) rfl hrun) (concs_cons.2 ⟨_, _, mkS_ok (Y := Y) (e := .var 2) ha hb, concs_cons.2 ⟨_, _, hv c hc _, rfl, rfl⟩, rfl⟩) rfl
  rcases cl_split hf with c | c | c | c
  · by_cases h1 : m ≤ 0
    · exact fin _ _ _ c hm.1 h1 run_low
    by_cases h2 : m ≤ 20
    · exact fin _ _ _ c (by omega) h2 run_one
    by_cases h3 : m ≤ 21
    · exact fin _ _ _ c (by omega) h3 run_mid
    by_cases h4 : m ≤ 34
    · exact fin _ _ _ c (by omega) h4 run_two
    · exact fin _ _ _ c (by omega) hm.2 run_top
  · exact fin _ _ _ c hm.1 hm.2 run_bad0
  · exact fin _ _ _ c hm.1 hm.2 run_high
  · exact fin _ _ _ c hm.1 hm.2 run_long

end Go.Proofs.YteolloaikgffdaaGreatDoor
