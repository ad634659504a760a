/-
  The law IterateResult, class by class, by the kernel.
-/
import Derived.Test.YtpnbaomljhjefaaGreatDoorAeLives
import Derived.Test.YtpnbaomljhjefaaGreatDoorAeMay
namespace Go.Proofs.YtpnbaomljhjefaaGreatDoor
open Go.AE
set_option maxRecDepth 100000

def good : Cl := ⟨0, 6, 0, most, true⟩
def high : Cl := ⟨7, 9, 0, most, true⟩

theorem cl_split {k n : Int} {s : ByteArray} (hf : fits k n s) : good.has k n s ∨ bad0.has k n s ∨ high.has k n s := by
  obtain ⟨h1, h2, h3⟩ := hf
  cases hm : mayP k n s.size with
  | false => exact .inr (.inl ⟨h1.1, h1.2, Nat.zero_le _, h3, hm⟩)
  | true =>
    have := mayP_kind hm
    by_cases c : 7 ≤ k
    · exact .inr (.inr ⟨c, this.2, Nat.zero_le _, h3, hm⟩)
    · exact .inl ⟨this.1, by show k ≤ 6; omega, Nat.zero_le _, h3, hm⟩

noncomputable def knB (c : Cl) : List Known := [⟨5, [c.av 0], .bool c.may⟩, ⟨6, [], .bool true⟩]
noncomputable def knG : List Known := [⟨5, [good.av 0], .bool true⟩, ⟨103, [good.av 0], .bool true⟩, ⟨6, [], .bool true⟩]

theorem run_bad0_true_true : evSm env (knB bad0) [] 300 100 (.fn 3) [bad0.av 0, .bool true, .bool true] ⟨.nil, 0, [], []⟩ (fun v _ => sameV v (.bool true)) = true := by kernel_rfl
theorem run_bad0_true_false : evSm env (knB bad0) [] 300 100 (.fn 3) [bad0.av 0, .bool true, .bool false] ⟨.nil, 0, [], []⟩ (fun v _ => sameV v (.bool true)) = true := by kernel_rfl
theorem run_bad0_false_true : evSm env (knB bad0) [] 300 100 (.fn 3) [bad0.av 0, .bool false, .bool true] ⟨.nil, 0, [], []⟩ (fun v _ => sameV v (.bool true)) = true := by kernel_rfl
theorem run_bad0_false_false : evSm env (knB bad0) [] 300 100 (.fn 3) [bad0.av 0, .bool false, .bool false] ⟨.nil, 0, [], []⟩ (fun v _ => sameV v (.bool true)) = true := by kernel_rfl
theorem run_high_true_true : evSm env (knB high) [] 300 100 (.fn 3) [high.av 0, .bool true, .bool true] ⟨.nil, 0, [], []⟩ (fun v _ => sameV v (.bool true)) = true := by kernel_rfl
theorem run_high_true_false : evSm env (knB high) [] 300 100 (.fn 3) [high.av 0, .bool true, .bool false] ⟨.nil, 0, [], []⟩ (fun v _ => sameV v (.bool true)) = true := by kernel_rfl
theorem run_high_false_true : evSm env (knB high) [] 300 100 (.fn 3) [high.av 0, .bool false, .bool true] ⟨.nil, 0, [], []⟩ (fun v _ => sameV v (.bool true)) = true := by kernel_rfl
theorem run_high_false_false : evSm env (knB high) [] 300 100 (.fn 3) [high.av 0, .bool false, .bool false] ⟨.nil, 0, [], []⟩ (fun v _ => sameV v (.bool true)) = true := by kernel_rfl
theorem run_good_true_true : evSm env (knG) [] 300 100 (.fn 3) [good.av 0, .bool true, .bool true] ⟨.nil, 0, [], []⟩ (fun v _ => sameV v (.bool true)) = true := by kernel_rfl
theorem run_good_true_false : evSm env (knG) [] 300 100 (.fn 3) [good.av 0, .bool true, .bool false] ⟨.nil, 0, [], []⟩ (fun v _ => sameV v (.bool true)) = true := by kernel_rfl
theorem run_good_false_true : evSm env (knG) [] 300 100 (.fn 3) [good.av 0, .bool false, .bool true] ⟨.nil, 0, [], []⟩ (fun v _ => sameV v (.bool true)) = true := by kernel_rfl
theorem run_good_false_false : evSm env (knG) [] 300 100 (.fn 3) [good.av 0, .bool false, .bool false] ⟨.nil, 0, [], []⟩ (fun v _ => sameV v (.bool true)) = true := by kernel_rfl

theorem result_ret {k n : Int} {s : ByteArray} (hf : fits k n s) (done room : Bool) : AE.Returns env.P 3 [vC k n s, .bool done, .bool room] (.bool true) := by
  let Y : Sy := ⟨fun i => match i with | 0 => k | _ => n, fun _ => s⟩
  have hv : ∀ c : Cl, c.has k n s → ∀ ρ, conc Y ρ (c.av 0) = some (vC k n s) := fun c hc ρ => conc_vA (Y := Y) (i := 0) (j := 1) (s := 0) hc.1 hc.2.1 hf.2.1.1 hf.2.1.2 hc.2.2.1 hc.2.2.2.1
  have hmay : ∀ c : Cl, c.has k n s → Gives Y env 5 [c.av 0] (.bool c.may) := by
    intro c hc
    have := may_ret k n s hf.1 hf.2.1 hf.2.2
    rw [hc.2.2.2.2] at this
    exact Gives.of_returns this (concs_cons.2 ⟨_, _, hv c hc _, rfl, rfl⟩) rfl
  have e6 : KnownOk Y env [⟨6, [], .bool true⟩] := KnownOk.nil.cons (by kernel_rfl) (lives_gives Y)
  have fin : ∀ (c : Cl) (kn : List Known), c.has k n s → KnownOk Y env kn → evSm env kn [] 300 100 (.fn 3) [c.av 0, .bool done, .bool room] ⟨.nil, 0, [], []⟩ (fun v _ => sameV v (.bool true)) = true → AE.Returns env.P 3 [vC k n s, .bool done, .bool room] (.bool true) := fun c kn hc hkn hrun =>
    Gives.returns (gives_of_sums (Y := Y) (env_ok _) hkn SumsOk.nil rfl hrun) (concs_cons.2 ⟨_, _, hv c hc _, rfl, rfl⟩) rfl
  have hB : ∀ c : Cl, c.has k n s → KnownOk Y env (knB c) := fun c hc => e6.cons (by kernel_rfl) (hmay c hc)
  rcases cl_split hf with c | c | c
  · have hG : KnownOk Y env knG := (e6.cons (by kernel_rfl) (Gives.of_returns (cmay_ret k n s ⟨c.1, c.2.1⟩ hf.2.1.2 c.2.2.2.2) (concs_cons.2 ⟨_, _, hv _ c _, rfl, rfl⟩) rfl)).cons (by kernel_rfl) (hmay _ c)
    cases done <;> cases room
    · exact fin _ _ c hG run_good_false_false
    · exact fin _ _ c hG run_good_false_true
    · exact fin _ _ c hG run_good_true_false
    · exact fin _ _ c hG run_good_true_true
  · cases done <;> cases room
    · exact fin _ _ c (hB _ c) run_bad0_false_false
    · exact fin _ _ c (hB _ c) run_bad0_false_true
    · exact fin _ _ c (hB _ c) run_bad0_true_false
    · exact fin _ _ c (hB _ c) run_bad0_true_true
  · cases done <;> cases room
    · exact fin _ _ c (hB _ c) run_high_false_false
    · exact fin _ _ c (hB _ c) run_high_false_true
    · exact fin _ _ c (hB _ c) run_high_true_false
    · exact fin _ _ c (hB _ c) run_high_true_true

end Go.Proofs.YtpnbaomljhjefaaGreatDoor
