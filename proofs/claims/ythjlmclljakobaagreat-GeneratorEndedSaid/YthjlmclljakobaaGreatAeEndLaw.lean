/-
  GeneratorEnded, class by class: values that are not valid, strings that are too long; all others by AeEnd.
-/
import Derived.Test.YthjlmclljakobaaGreatAeEnd
namespace Go.Proofs.YthjlmclljakobaaGreat
open Go.AE
set_option maxRecDepth 100000

def valC : Cl := ⟨0, 9, 0, most, true⟩
def objC : Cl := ⟨6, 9, 0, most, true⟩
def lowC : Cl := ⟨0, 5, 0, 65536, true⟩
noncomputable def knA (l : List Known) : List Known := l ++ [⟨5, [], .bool true⟩]
noncomputable def FL : List (SX × Int × Int) := [(.bin .add .i64 (.len 0) (.len 1), 1001, 131072)]

theorem runA : evKn env [⟨4, [bad0.av 0], .bool false⟩, ⟨5, [], .bool true⟩] 300 100 (.fn 3) [bad0.av 0, anyC.av 1, .oslice 0] ⟨.nil, 0, [], []⟩ (fun v _ => sameV v (.bool true)) = true := by kernel_rfl
theorem runB : evKn env [⟨4, [valC.av 0], .bool true⟩, ⟨4, [bad0.av 1], .bool false⟩, ⟨5, [], .bool true⟩] 300 100 (.fn 3) [valC.av 0, bad0.av 1, .oslice 0] ⟨.nil, 0, [], []⟩ (fun v _ => sameV v (.bool true)) = true := by kernel_rfl
theorem runC : evKn env [⟨4, [objC.av 0], .bool true⟩, ⟨4, [valC.av 1], .bool true⟩, ⟨5, [], .bool true⟩] 300 100 (.fn 3) [objC.av 0, valC.av 1, .oslice 0] ⟨.nil, 0, [], []⟩ (fun v _ => sameV v (.bool true)) = true := by kernel_rfl
theorem runD : evKn env [⟨4, [lowC.av 0], .bool true⟩, ⟨4, [objC.av 1], .bool true⟩, ⟨5, [], .bool true⟩] 300 100 (.fn 3) [lowC.av 0, objC.av 1, .oslice 0] ⟨.nil, 0, [], []⟩ (fun v _ => sameV v (.bool true)) = true := by kernel_rfl
theorem runE : evKn (envF FL) [⟨4, [lowC.av 0], .bool true⟩, ⟨4, [lowC.av 1], .bool true⟩, ⟨5, [], .bool true⟩] 300 100 (.fn 3) [lowC.av 0, lowC.av 1, .oslice 0] ⟨.nil, 0, [], []⟩ (fun v _ => sameV v (.bool true)) = true := by kernel_rfl

theorem hasF4 : hasBody env 4 = true := by kernel_rfl
theorem hasF5 : hasBody env 5 = true := by kernel_rfl
theorem hasL4 : hasBody (envF FL) 4 = true := by kernel_rfl
theorem hasL5 : hasBody (envF FL) 5 = true := by kernel_rfl

section
variable {k0 n0 k1 n1 : Int} {s0 s1 : ByteArray}

def sy (k0 n0 : Int) (s0 : ByteArray) (k1 n1 : Int) (s1 : ByteArray) (zs : List Int) (sl : Option Addr × Nat × Nat) : Sy :=
  ⟨fun i => match i with | 0 => k0 | 1 => n0 | 2 => k1 | 3 => n1 | j + 4 => zs.getD (j - 6) 0, fun i => match i with | 0 => s0 | _ => s1, fun _ => sl, fun _ => undef⟩

theorem mayP_le {k n : Int} {len : Nat} (h : mayP k n len = true) (_ : k ≤ 5) : len ≤ 65536 := by
  unfold mayP at h
  split at h
  · cases h
  split at h
  · simp at h; exact h.2
  split at h
  · cases h
  · omega

theorem ended_all (f0 : fits k0 n0 s0) (f1 : fits k1 n1 s1) {W : World} {a : Option Addr} {len cap : Nat} {zs : List Int}
    (hs : (a = none ∧ len = 0) ∨ ∃ A, a = some A ∧ len ≤ cap ∧ cap ≤ 9223372036854775807 ∧ len ≤ zs.length ∧ (∀ i, i < zs.length → W.cell? (A.add i) = some (.int .i64 (zs.getD i 0))) ∧ ∀ n ∈ zs, lo64 ≤ n ∧ n ≤ hi64) :
    Calls Tryz.prog 3 #[vC k0 n0 s0, vC k1 n1 s1, .slice a len cap] W fun e w' => e = .returned (.bool true) ∧ RowKit.Below W.heap.size W w' := by
  let Y : Sy := sy k0 n0 s0 k1 n1 s1 zs (a, len, cap)
  have c0 : ∀ (c : Cl), c.has k0 n0 s0 → ∀ ρ, conc Y ρ (c.av 0) = some (vC k0 n0 s0) := fun c hc ρ => conc_vA (Y := Y) (i := 0) (j := 1) (s := 0) hc.1 hc.2.1 f0.2.1.1 f0.2.1.2 hc.2.2.1 hc.2.2.2.1
  have c1 : ∀ (c : Cl), c.has k1 n1 s1 → ∀ ρ, conc Y ρ (c.av 1) = some (vC k1 n1 s1) := fun c hc ρ => conc_vA (Y := Y) (i := 2) (j := 3) (s := 1) hc.1 hc.2.1 f1.2.1.1 f1.2.1.2 hc.2.2.1 hc.2.2.2.1
  have a1 : ∀ ρ, conc Y ρ (anyC.av 1) = some (vC k1 n1 s1) := fun ρ => conc_vA (Y := Y) (i := 2) (j := 3) (s := 1) f1.1.1 f1.1.2 f1.2.1.1 f1.2.1.2 (Nat.zero_le _) f1.2.2
  have m0 : ∀ (E : Env) (c : Cl), E.P = Tryz.prog → c.has k0 n0 s0 → Gives Y E 4 [c.av 0] (.bool c.may) := fun E c hE hc => by
    have := may_ret k0 n0 s0 f0.1 f0.2.1 f0.2.2
    rw [hc.2.2.2.2] at this
    exact Gives.of_returns (by rw [hE]; exact this) (concs_cons.2 ⟨_, _, c0 c hc _, rfl, rfl⟩) rfl
  have m1 : ∀ (E : Env) (c : Cl), E.P = Tryz.prog → c.has k1 n1 s1 → Gives Y E 4 [c.av 1] (.bool c.may) := fun E c hE hc => by
    have := may_ret k1 n1 s1 f1.1 f1.2.1 f1.2.2
    rw [hc.2.2.2.2] at this
    exact Gives.of_returns (by rw [hE]; exact this) (concs_cons.2 ⟨_, _, c1 c hc _, rfl, rfl⟩) rfl
  have k5 : KnownOk Y env [⟨5, [], .bool true⟩] := KnownOk.nil.cons hasF5 (goes_gives Y)
  have fin : ∀ (E : Env) (v0 v1 : AV), E.P = Tryz.prog → (∀ ρ, conc Y ρ v0 = some (vC k0 n0 s0)) → (∀ ρ, conc Y ρ v1 = some (vC k1 n1 s1)) → Gives Y E 3 [v0, v1, .oslice 0] (.bool true) →
      Calls Tryz.prog 3 #[vC k0 n0 s0, vC k1 n1 s1, .slice a len cap] W fun e w' => e = .returned (.bool true) ∧ RowKit.Below W.heap.size W w' := by
    intro E v0 v1 hE h0 h1 hg
    have := Gives.returns hg (cargs := [vC k0 n0 s0, vC k1 n1 s1, .slice a len cap]) (concs_cons.2 ⟨_, _, h0 _, concs_cons.2 ⟨_, _, h1 _, concs_cons.2 ⟨_, _, rfl, rfl, rfl⟩, rfl⟩, rfl⟩) (cv := .bool true) rfl W
    rw [hE] at this
    exact this
  cases e0 : mayP k0 n0 s0.size with
  | false =>
    have hc : bad0.has k0 n0 s0 := ⟨f0.1.1, f0.1.2, Nat.zero_le _, f0.2.2, e0⟩
    exact fin env _ _ rfl (c0 _ hc) a1 (gives_of_run (env_ok _) (k5.cons hasF4 (m0 env _ rfl hc)) rfl runA)
  | true =>
    have kk0 := mayP_kind e0
    have hv0 : valC.has k0 n0 s0 := ⟨kk0.1, kk0.2, Nat.zero_le _, f0.2.2, e0⟩
    cases e1 : mayP k1 n1 s1.size with
    | false =>
      have hc : bad0.has k1 n1 s1 := ⟨f1.1.1, f1.1.2, Nat.zero_le _, f1.2.2, e1⟩
      exact fin env _ _ rfl (c0 _ hv0) (c1 _ hc) (gives_of_run (env_ok _) ((k5.cons hasF4 (m1 env _ rfl hc)).cons hasF4 (m0 env _ rfl hv0)) rfl runB)
    | true =>
      have kk1 := mayP_kind e1
      have hv1 : valC.has k1 n1 s1 := ⟨kk1.1, kk1.2, Nat.zero_le _, f1.2.2, e1⟩
      by_cases d0 : 6 ≤ k0
      · have hc : objC.has k0 n0 s0 := ⟨d0, kk0.2, Nat.zero_le _, f0.2.2, e0⟩
        exact fin env _ _ rfl (c0 _ hc) (c1 _ hv1) (gives_of_run (env_ok _) ((k5.cons hasF4 (m1 env _ rfl hv1)).cons hasF4 (m0 env _ rfl hc)) rfl runC)
      have l0 : lowC.has k0 n0 s0 := ⟨kk0.1, by show k0 ≤ 5; omega, Nat.zero_le _, mayP_le e0 (by omega), e0⟩
      by_cases d1 : 6 ≤ k1
      · have hc : objC.has k1 n1 s1 := ⟨d1, kk1.2, Nat.zero_le _, f1.2.2, e1⟩
        exact fin env _ _ rfl (c0 _ l0) (c1 _ hc) (gives_of_run (env_ok _) ((k5.cons hasF4 (m1 env _ rfl hc)).cons hasF4 (m0 env _ rfl l0)) rfl runD)
      have l1 : lowC.has k1 n1 s1 := ⟨kk1.1, by show k1 ≤ 5; omega, Nat.zero_le _, mayP_le e1 (by omega), e1⟩
      have z0 := l0.2.2.2.1
      have z1 := l1.2.2.2.1
      have z0 : s0.size ≤ 65536 := z0
      have z1 : s1.size ≤ 65536 := z1
      by_cases d2 : 1000 < s0.size + s1.size
      · refine fin (envF FL) _ _ rfl (c0 _ l0) (c1 _ l1) (gives_of_run (envF_ok fun e l h hm => ?_) (((KnownOk.nil (E := envF FL)).cons hasL5 (goes_gives Y)).cons hasL4 (m1 (envF FL) _ rfl l1) |>.cons hasL4 (m0 (envF FL) _ rfl l0)) rfl runE)
        unfold FL at hm
        simp only [List.mem_singleton, Prod.mk.injEq] at hm
        obtain ⟨rfl, rfl, rfl⟩ := hm
        have e : SX.val Y (.bin .add .i64 (.len 0) (.len 1)) = IntKind.wrap .i64 ((s0.size : Int) + (s1.size : Int)) := rfl
        rw [e, wrap64_in _ (by omega) (by omega)]
        omega
      · have hF : Fam Y := ⟨⟨kk0.1, by show k0 ≤ 5; omega, Nat.zero_le _, by show s0.size ≤ 1000; omega, e0⟩, f0, ⟨kk1.1, by show k1 ≤ 5; omega, Nat.zero_le _, by show s1.size ≤ 1000; omega, e1⟩, f1, by show s0.size + s1.size ≤ 1000; omega⟩
        have i0 : Y.ints 0 = k0 := rfl
        have i1 : Y.ints 1 = n0 := rfl
        have i2 : Y.ints 2 = k1 := rfl
        have i3 : Y.ints 3 = n1 := rfl
        have t0 : Y.strs 0 = s0 := rfl
        have t1 : Y.strs 1 = s1 := rfl
        have u0 : Y.sls 0 = (a, len, cap) := rfl
        have i10 : ∀ j, Y.ints (10 + j) = zs.getD j 0 := fun j => by
          rw [show 10 + j = (6 + j) + 4 by omega]
          show zs.getD (6 + j - 6) 0 = _
          rw [show 6 + j - 6 = j by omega]
        clear_value Y
        suffices hK : Kinds Y W len by
          have h := end_calls hF hK
          rw [i0, i1, i2, i3, t0, t1, u0] at h
          exact h
        refine ⟨by rw [u0], ?_, ?_⟩
        rotate_left
        rw [u0]
        rotate_right
        · rcases hs with ⟨_, rfl⟩ | ⟨A, _, h1, h2, _⟩
          · omega
          · omega
        · rcases hs with ⟨_, rfl⟩ | ⟨A, rfl, h1, h2, h3, h4, h5⟩
          · exact .inl rfl
          by_cases hz : len = 0
          · exact .inl hz
          have g0 := h4 0 (by omega)
          have ea : A.add 0 = A := rfl
          rw [ea] at g0
          unfold World.cell? at g0
          split at g0
          · rename_i arr elem fz hblk
            split at g0
            · cases g0
            rename_i hsp
            have hspot : A.spot = none := by
              cases h : A.spot with
              | none => rfl
              | some x => rw [h] at hsp; exact absurd rfl hsp
            have hget : ∀ i, i < zs.length → arr[A.off + i]? = some (.int .i64 (zs.getD i 0)) := by
              intro i hi
              have g := h4 i hi
              unfold World.cell? at g
              by_cases hi0 : i = 0
              · subst hi0
                exact g0
              have eb : (A.add i) = { A with off := A.off + i, spot := none } := by unfold Addr.add; rw [if_neg hi0]
              rw [eb] at g
              dsimp only at g
              rw [hblk] at g
              simpa using g
            refine .inr ⟨A, arr, elem, fz, rfl, ?_, h1, hblk, ?_, fun j hj => ⟨zs.getD j 0, hget j (by omega), ?_, ?_, fun hj' => ?_⟩⟩
            · cases A
              simp only at hspot
              rw [hspot]
            · have := hget (len - 1) (by omega)
              have hlt : A.off + (len - 1) < arr.size := by
                rcases Nat.lt_or_ge (A.off + (len - 1)) arr.size with h | h
                · exact h
                · rw [Array.getElem?_eq_none h] at this; cases this
              omega
            · exact (h5 _ (by rw [List.getD_eq_getElem?_getD, List.getElem?_eq_getElem (by omega)]; exact List.getElem_mem _)).1
            · exact (h5 _ (by rw [List.getD_eq_getElem?_getD, List.getElem?_eq_getElem (by omega)]; exact List.getElem_mem _)).2
            · exact i10 j
          · cases g0

end
end Go.Proofs.YthjlmclljakobaaGreat
