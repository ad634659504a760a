/-
  GeneratorEnded for valid values: its loop, from head to head; the call.
-/
import Derived.Test.YthjlmclljakobaaGreatAeEndPre
import Derived.Test.YthjlmclljakobaaGreatAeEndIn
import Derived.Test.YthjlmclljakobaaGreatAeEndOut
import Derived.Test.YthjlmclljakobaaGreatAeEndR0
import Derived.Test.YthjlmclljakobaaGreatAeEndR1
import Derived.Test.YthjlmclljakobaaGreatAeEndR2
import Derived.Test.YthjlmclljakobaaGreatAeEndR3
namespace Go.Proofs.YthjlmclljakobaaGreat
open Go.AE
set_option maxRecDepth 100000

/-! ### The code -/
theorem ft3 : EE.ft.get 3 = some fn3 := by
  have h : (match EE.ft.get 3 with | some _ => true | none => false) = true := by kernel_rfl
  unfold fn3
  revert h
  generalize EE.ft.get 3 = x
  cases x with
  | none => intro h; cases h
  | some f => intro _; rfl

theorem shape3 : fn3.body = some (seqs pre (.seq (.seq cP8 (.block 0 (.loop cB))) cR)) := by kernel_rfl
theorem shapeB : cB = .seq cA1 (.seq (.block 1 (.seq cR15 cSW)) cR14) := by kernel_rfl
theorem LL_eq : LL = ⟨liveE, 0⟩ := by kernel_rfl
theorem live_lt : Nat.blt liveE (Nat.pow 2 180) = true := by kernel_rfl
theorem ngE : EE.ng = 0 := rfl

/-! ### The symbols -/
structure Fam (Y : Sy) : Prop where
  v0 : good.has (Y.ints 0) (Y.ints 1) (Y.strs 0)
  f0 : fits (Y.ints 0) (Y.ints 1) (Y.strs 0)
  v1 : good.has (Y.ints 2) (Y.ints 3) (Y.strs 1)
  f1 : fits (Y.ints 2) (Y.ints 3) (Y.strs 1)
  sum : (Y.strs 0).size + (Y.strs 1).size ≤ 1000

theorem Fam.agree {Y Y' : Sy} (h : Fam Y) (ag : Agree Y Y') : Fam Y' := by
  have e0 := ag.ints 0 (by omega)
  have e1 := ag.ints 1 (by omega)
  have e2 := ag.ints 2 (by omega)
  have e3 := ag.ints 3 (by omega)
  have es := ag.strs
  exact ⟨by rw [e0, e1, es]; exact h.v0, by rw [e0, e1, es]; exact h.f0, by rw [e2, e3, es]; exact h.v1, by rw [e2, e3, es]; exact h.f1, by rw [es]; exact h.sum⟩

section
variable {Y : Sy}

theorem conc_g0 (h : Fam Y) (ρ : Rho) : conc Y ρ (good.av 0) = some (vC (Y.ints 0) (Y.ints 1) (Y.strs 0)) := conc_vA (i := 0) (j := 1) (s := 0) h.v0.1 h.v0.2.1 h.f0.2.1.1 h.f0.2.1.2 h.v0.2.2.1 h.v0.2.2.2.1
theorem conc_g1 (h : Fam Y) (ρ : Rho) : conc Y ρ (good.av 1) = some (vC (Y.ints 2) (Y.ints 3) (Y.strs 1)) := conc_vA (i := 2) (j := 3) (s := 1) h.v1.1 h.v1.2.1 h.f1.2.1.1 h.f1.2.1.2 h.v1.2.2.1 h.v1.2.2.2.1

theorem EE_ok (h : Fam Y) : EnvOk Y EE := envF_ok fun e l hh hm => by
  unfold FS at hm
  simp only [List.mem_singleton, Prod.mk.injEq] at hm
  obtain ⟨rfl, rfl, rfl⟩ := hm
  have e : SX.val Y (.bin .add .i64 (.len 0) (.len 1)) = IntKind.wrap .i64 (((Y.strs 0).size : Int) + ((Y.strs 1).size : Int)) := rfl
  have := h.sum
  rw [e, wrap64_in _ (by omega) (by omega)]
  omega

theorem hasE4 : hasBody EE 4 = true := by kernel_rfl
theorem hasE5 : hasBody EE 5 = true := by kernel_rfl
theorem hasE130 : hasBody EE 130 = true := by kernel_rfl

theorem mayE {k n : Int} {s : ByteArray} {i : Nat} (hc : good.has k n s) (hf : fits k n s) (hv : ∀ ρ, conc Y ρ (good.av i) = some (vC k n s)) : Gives Y EE 4 [good.av i] (.bool true) := by
  have := may_ret k n s hf.1 hf.2.1 hf.2.2
  rw [hc.2.2.2.2] at this
  exact Gives.of_returns (E := EE) this (concs_cons.2 ⟨_, _, hv _, rfl, rfl⟩) rfl

theorem cmayE {k n : Int} {s : ByteArray} {i : Nat} (hc : good.has k n s) (hv : ∀ ρ, conc Y ρ (good.av i) = some (vC k n s)) : Gives Y EE 130 [good.av i] (.bool true) :=
  Gives.of_returns (E := EE) (cmay_ret k n s ⟨hc.1, hc.2.1⟩ hc.2.2.2.2) (concs_cons.2 ⟨_, _, hv _, rfl, rfl⟩) rfl

theorem knE_ok (h : Fam Y) : KnownOk Y EE knE :=
  ((((KnownOk.nil.cons hasE130 (cmayE h.v1 (conc_g1 h))).cons hasE130 (cmayE h.v0 (conc_g0 h))).cons hasE5 (goes_gives Y)).cons hasE4 (mayE h.v1 h.f1 (conc_g1 h))).cons hasE4 (mayE h.v0 h.f0 (conc_g0 h))

theorem rcE_ok (h : Fam Y) : RecOk Y EE rcE := evSm_ok (EE_ok h) (knE_ok h) SumsOk.nil 300 99
theorem rcP_ok (h : Fam Y) : RecOk Y EE rcP := evSm_ok (EE_ok h) (knE_ok h) (SumsOk.facts FS (SumsOk.nil.cons (qEnd_ok Y))) 300 99
theorem clE_ok (h : Fam Y) (c : Code) : CodeOk Y EE LL fn3.ntmps c (cl c) := codes_ok (EE_ok h) ft3 c

end

/-! ### The heads -/
theorem ents_ok : ((List.range 21).all fun m => (entsE m).all fun p => okHO p.2) = true := by kernel_rfl
theorem entsX_ok : ((List.range 21).all fun m => (entsX m).all fun p => okHO p.2) = true := by kernel_rfl

theorem ents_okm {m : Nat} (hm : m ≤ 20) : ((entsE m).all fun p => okHO p.2) = true := by
  have := ents_ok
  rw [List.all_eq_true] at this
  exact this m (List.mem_range.2 (by omega))
theorem entsX_okm {m : Nat} (hm : m ≤ 20) : ((entsX m).all fun p => okHO p.2) = true := by
  have := entsX_ok
  rw [List.all_eq_true] at this
  exact this m (List.mem_range.2 (by omega))

def restS : List Nat := restM.filter fun t => !Nat.beq t 109
theorem restS_mem {t : Nat} (h : t ∈ restS) : t ∈ restM := (List.mem_filter.1 h).1

theorem opq_hd (m i : Nat) : opqB (hd m i).tmT restM = true := by kernel_rfl
theorem opq_hdN (m i : Nat) : opqB (hdN m i).tmT restM = true := by kernel_rfl
theorem opq_hs (m c : Nat) : opqB (hs m c).tmT restS = true := by kernel_rfl
theorem opq_hx (m : Nat) : opqB (hx m).tmT restX = true := by kernel_rfl

theorem turn_hd0 : turnOk liveE keepM restM (hd 0 0).tmT (hd 0 0).tmT 180 = true := by kernel_rfl
theorem turn_hd (m i : Nat) : turnOk liveE keepM (13 :: restM) (he m).tmT (hd m i).tmT 180 = true := by kernel_rfl
theorem turn_hdN (m i : Nat) : turnOk liveE keepM (2 :: 13 :: restM) (hd m i).tmT (hdN m i).tmT 180 = true := by kernel_rfl
theorem turn_hs (m i c : Nat) : turnOk liveE keepV (13 :: 109 :: restS) (hb m i).tmT (hs m c).tmT 180 = true := by kernel_rfl
theorem turn_hx (m : Nat) : turnOk liveE keepX restX (hx m).tmT (hx m).tmT 180 = true := by kernel_rfl

theorem keepM_in : Nat.beq (Nat.land keepM LL.live) keepM = true := by kernel_rfl
theorem keepV_in : Nat.beq (Nat.land keepV LL.live) keepV = true := by kernel_rfl
theorem keepX_in : Nat.beq (Nat.land keepX LL.live) keepX = true := by kernel_rfl

theorem sub_live {k : Nat} (h : Nat.beq (Nat.land k LL.live) k = true) : ∀ t, Nat.testBit k t = true → Nat.testBit LL.live t = true := by
  intro t ht
  have h' : k &&& LL.live = k := Nat.eq_of_beq_eq_true h
  rw [← h', Nat.testBit_and, Bool.and_eq_true] at ht
  exact ht.2

theorem rounds : ∀ m, m < 20 → ((List.range 4).all fun c => roundB m c) = true
  | 0, _ => round0
  | 1, _ => round1
  | 2, _ => round2
  | 3, _ => round3
  | 4, _ => round4
  | 5, _ => round5
  | 6, _ => round6
  | 7, _ => round7
  | 8, _ => round8
  | 9, _ => round9
  | 10, _ => round10
  | 11, _ => round11
  | 12, _ => round12
  | 13, _ => round13
  | 14, _ => round14
  | 15, _ => round15
  | 16, _ => round16
  | 17, _ => round17
  | 18, _ => round18
  | 19, _ => round19
  | n + 20, h => absurd h (by omega)

theorem rests (m : Nat) (hm : m ≤ 20) : restB m = true := by
  have e : ∀ k, ((List.range 7).all fun m => restB (m + k)) = true → k ≤ m → m < k + 7 → restB m = true := by
    intro k h h1 h2
    rw [List.all_eq_true] at h
    have := h (m - k) (List.mem_range.2 (by omega))
    rwa [show m - k + k = m by omega] at this
  by_cases h1 : m < 7
  · exact e 0 rest0 (by omega) (by omega)
  by_cases h2 : m < 14
  · exact e 7 rest1 (by omega) (by omega)
  · exact e 14 rest2 (by omega) (by omega)

/-- what is in memory where the slice begins -/
structure Kinds (Y : Sy) (w0 : World) (n : Nat) : Prop where
  len : (Y.sls 0).2.1 = n
  most : n ≤ 9223372036854775807
  vals : n = 0 ∨ ∃ (A : Addr) (arr : Array Value) (elem : TypeId) (fz : Nat × Nat), (Y.sls 0).1 = some A ∧ A = ⟨A.block, A.off, none⟩ ∧ n ≤ (Y.sls 0).2.2 ∧ w0.heap[A.block]? = some (.cells arr elem fz) ∧ A.off + n ≤ arr.size ∧
    ∀ j, j < n → ∃ z, arr[A.off + j]? = some (.int .i64 z) ∧ lo64 ≤ z ∧ z ≤ hi64 ∧ (j < 20 → Y.ints (10 + j) = z)

/-! ### The loop -/
/-- in front of a round: how many rounds there may still be -/
def Inv (Y₀ : Sy) (w0 : World) (n : Nat) (μ : Nat) (a : Act) (w : World) : Prop :=
  ∃ m i Y, m ≤ i ∧ i ≤ 20 ∧ i ≤ n ∧ μ = 20 - i ∧ Agree Y₀ Y ∧ At Y EE w0 ⟨liveE, 0⟩ fn3.ntmps (hd m i) a w

/-- behind the loop -/
def Out (Y₀ : Sy) (w0 : World) (a : Act) (w : World) : Prop := ∃ m Y, m ≤ 20 ∧ Agree Y₀ Y ∧ At Y EE w0 ⟨keepX, 0⟩ fn3.ntmps (hx m) a w

section
variable {Y₀ Y : Sy} {w0 : World} {n : Nat} {a : Act} {w : World}

def withOps (Y : Sy) (a : Act) : Sy := { Y with ops := fun t => a.tmps.getD t undef }
theorem agree_ops (Y : Sy) (a : Act) : Agree Y (withOps Y a) := ⟨rfl, rfl, fun _ _ => rfl⟩

theorem opq_conc {Y : Sy} {tm : T AV} {l : List Nat} (h : opqB tm l = true) (a : Act) (t : Nat) (ht : t ∈ l) (hY : Y.ops t = a.tmps.getD t undef) : conc Y (fun _ => none) (tget tm t) = some (a.tmps.getD t undef) := by
  rw [opqB_ok h t ht]
  simp only [conc, hY]

theorem atLL {s : Hd} (h : At Y EE w0 LL fn3.ntmps s a w) : At Y EE w0 ⟨liveE, 0⟩ fn3.ntmps s a w := by rw [← LL_eq]; exact h
theorem ofLL {s : Hd} (h : At Y EE w0 ⟨liveE, 0⟩ fn3.ntmps s a w) : At Y EE w0 LL fn3.ntmps s a w := by rw [LL_eq]; exact h

/-- the counter goes up -/
theorem up_ok (hag : Agree Y₀ Y) {m i : Nat} (hm : m ≤ i + 1) (hi : i < 20) (hn : i < n) (h1000 : Y.ints 1000 = i) (h : LeavesB Y EE w0 LL fn3.ntmps (fit keepM 180 (he m)) a w) : ∃ μ, μ < 20 - i ∧ Inv Y₀ w0 n μ a w := by
  have h1 : At Y EE w0 ⟨keepM, 0⟩ fn3.ntmps (he m) a w := h.at_less keepM_in
  have e13 : a.tmps.getD 13 undef = .int .i64 ((i + 1 : Nat) : Int) := by
    refine h1.tmp (t := 13) (by decide) (v := .sint .i64 (.bin .add .i64 (.var 1000) (.con 1)) 1 20) (by kernel_rfl) fun ρ => .inl ?_
    have e : SX.val Y (.bin .add .i64 (.var 1000) (.con 1)) = ((i + 1 : Nat) : Int) := by
      show IntKind.wrap .i64 (Y.ints 1000 + 1) = _
      rw [h1000, wrap64_in _ (by omega) (by omega)]
      omega
    simp only [conc, e]
    rw [if_pos ⟨by omega, by omega⟩]
  refine ⟨20 - (i + 1), by omega, m, i + 1, withOps Y a, by omega, by omega, by omega, rfl, hag.trans (agree_ops Y a), ?_⟩
  refine h1.turn (agree_ops Y a) rfl rfl rfl (ents_okm (by omega)) live_lt (turn_hd m (i + 1)) fun t ht => ?_
  rcases List.mem_cons.1 ht with rfl | ht
  · rw [e13]
    have : tget (hd m (i + 1)).tmT 13 = .i64 ((i + 1 : Nat) : Int) := by kernel_rfl
    rw [this]
    simp only [conc]
  · exact opq_conc (opq_hd m (i + 1)) a t ht rfl

/-- one round -/
theorem round_ok {Q : Exit → Act → World → Prop} (hF : Fam Y₀) (hK : Kinds Y₀ w0 n) (hag : Agree Y₀ Y) {m i : Nat} (hm : m ≤ i) (hi : i < 20) (hn : i < n) (hat : At Y EE w0 ⟨liveE, 0⟩ fn3.ntmps (hd m i) a w)
    (hQ : ∀ a' w', (∃ μ, μ < 20 - i ∧ Inv Y₀ w0 n μ a' w') → Q .normal a' w') : cB.wpIn (fence none) 0 EE.P Q a w := by
  have hF' := hF.agree hag
  rw [shapeB]
  obtain h0 | ⟨A, arr, elem, fz, k1, k2, k3, k4, k5, k6⟩ := hK.vals
  · omega
  have hlen := hK.len
  have esl := hag.sls
  have h1 : At Y EE w0 LL fn3.ntmps (hdV m i) a w := by
    refine At.add (ofLL hat) rfl (t := 2) (i := 0) (b₀ := 999) (o₀ := 0) (hi₀ := 9223372036854775807) (by kernel_rfl) (A := A) (by rw [esl]; exact k1) k2 (by rw [esl, hlen]; exact k3) (by rw [esl, hlen]; omega) (by rw [esl, hlen]; exact hK.most) k4
      (by unfold valsE; rw [List.length_map, List.length_range]; omega) fun j v hv => ?_
    unfold valsE at hv
    rw [List.getElem?_map] at hv
    have hj : j < i + 1 := by
      rcases Nat.lt_or_ge j (i + 1) with h | h
      · exact h
      · rw [List.getElem?_eq_none (by rw [List.length_range]; exact h)] at hv; cases hv
    rw [List.getElem?_range hj] at hv
    cases hv
    obtain ⟨z, z1, z2, z3, z4⟩ := k6 j (by omega)
    have ez : Y.ints (10 + j) = z := by rw [hag.ints _ (by omega)]; exact z4 (by omega)
    refine ⟨rfl, .int .i64 z, fun ρ => ?_, z1⟩
    have e : SX.val Y (.var (10 + j)) = z := ez
    simp only [conc, e]
    rw [if_pos ⟨z2, z3⟩]
  have hen := enter_ok i hi
  rw [List.all_eq_true] at hen
  have hen := hen m (List.mem_range.2 (by omega))
  refine wpIn_seq (wpIn_mono (step_ok ngE (clE_ok hF' cA1) (rcE_ok hF') h1 hen) fun e a1 w1 hq => ?_)
  cases e with
  | exit id => exact (LeavesB.none hq).elim
  | ret => exact (LeavesB.none hq).elim
  | goto l => exact hq.elim
  | panic ch => exact hq.elim
  | outgrown => exact hq.elim
  | normal =>
    refine wpIn_seq (wpIn_block (prefB ngE (clE_ok hF') (rcE_ok hF') (r := cSW) (fun a2 w2 h2 => ?_) [cR15] a1 w1 hq))
    have h3 : At Y EE w0 ⟨keepV, 0⟩ fn3.ntmps (hb m i) a2 w2 := h2.at_less keepV_in
    have e13 : a2.tmps.getD 13 undef = .int .i64 (i : Int) := h3.tmp (t := 13) (by decide) (v := .i64 (i : Int)) (by kernel_rfl) fun ρ => .inl rfl
    have e109 : a2.tmps.getD 109 undef = .int .i64 (Y.ints (10 + i)) := h3.tmp (t := 109) (by decide) (v := .sint .i64 (.var (10 + i)) lo64 hi64) (by kernel_rfl) fun ρ => by
      simp only [conc]
      split
      · exact .inl rfl
      · exact .inr rfl
    obtain ⟨z, z1, z2, z3, z4⟩ := k6 i hn
    have ez : Y.ints (10 + i) = z := by rw [hag.ints _ (by omega)]; exact z4 hi
    rw [ez] at e109
    let Y' : Sy := { Y with ints := fun j => if j = 1000 then (i : Int) else if j = 1001 then z else Y.ints j, ops := fun t => a2.tmps.getD t undef }
    have ag : Agree Y Y' := ⟨rfl, rfl, fun j hj => by
      show (if j = 1000 then (i : Int) else if j = 1001 then z else Y.ints j) = Y.ints j
      rw [if_neg (by omega), if_neg (by omega)]⟩
    have i1000 : Y'.ints 1000 = i := rfl
    have i1001 : Y'.ints 1001 = z := rfl
    have key : ∀ c m' : Nat, c < 4 → m' = (if c = 0 then m else m + 1) → conc Y' (fun _ => none) (clsE c) = some (.int .i64 z) → cSW.wpIn (fence none) 0 EE.P (Exit.inBlock 1 (Exit.then (cR14.wpIn (fence none) 0 EE.P Q) Q)) a2 w2 := by
      intro c m' hc hm' hcl
      have h4 : At Y' EE w0 ⟨liveE, 0⟩ fn3.ntmps (hs m c) a2 w2 := by
        refine h3.turn ag rfl rfl rfl (ents_okm (by omega)) live_lt (turn_hs m i c) fun t ht => ?_
        rcases List.mem_cons.1 ht with rfl | ht
        · rw [e13]
          have : tget (hs m c).tmT 13 = .sint .i64 (.var 1000) 0 19 := by kernel_rfl
          rw [this]
          have e : SX.val Y' (.var 1000) = (i : Int) := rfl
          simp only [conc, e]
          rw [if_pos ⟨by omega, by omega⟩]
        rcases List.mem_cons.1 ht with rfl | ht
        · rw [e109]
          have : tget (hs m c).tmT 109 = clsE c := by kernel_rfl
          rw [this]
          exact hcl
        · exact opq_conc (opq_hs m c) a2 t ht rfl
      have hF'' := hF'.agree ag
      have hr := rounds m (by omega)
      rw [List.all_eq_true] at hr
      have hr := hr c (List.mem_range.2 hc)
      have hr : (cl cSW).run rcE none (hs m c).tmT [] (hs m c).heap (runL cl rcE [cR14] (fit keepM 180 (he m'))) (fun _ => noK) noK = true := by
        cases c with
        | zero =>
          have e : m' = m := by simpa using hm'
          subst e
          exact hr
        | succ k =>
          have e : m' = m + 1 := by simpa using hm'
          subst e
          exact hr
      refine wpIn_mono (step_ok ngE (clE_ok hF'' cSW) (rcE_ok hF'') (ofLL h4) hr) fun e a3 w3 hq => ?_
      cases e with
      | exit id => exact (LeavesB.none hq).elim
      | ret => exact (LeavesB.none hq).elim
      | goto l => exact hq.elim
      | panic ch => exact hq.elim
      | outgrown => exact hq.elim
      | normal =>
        refine lastB ngE (clE_ok hF'') (rcE_ok hF'') (fun a4 w4 h5 => ?_) hq
        exact hQ a4 w4 (up_ok (hag.trans ag) (by rw [hm']; split <;> omega) hi hn i1000 h5)
    have c1 : SX.val Y' (.var 1001) = z := rfl
    by_cases d1 : z = 1
    · exact key 0 m (by omega) rfl (by rw [d1]; rfl)
    by_cases d2 : z = 2
    · exact key 1 (m + 1) (by omega) rfl (by rw [d2]; rfl)
    by_cases d3 : z ≤ 0
    · refine key 2 (m + 1) (by omega) rfl ?_
      show conc Y' _ (.sint .i64 (.var 1001) lo64 0) = _
      simp only [conc, c1]
      rw [if_pos ⟨z2, d3⟩]
    · refine key 3 (m + 1) (by omega) rfl ?_
      show conc Y' _ (.sint .i64 (.var 1001) 3 hi64) = _
      simp only [conc, c1]
      rw [if_pos ⟨by omega, z3⟩]

/-- the loop is left -/
theorem leave_ok' {Q : Exit → Act → World → Prop} (hF : Fam Y₀) (hK : Kinds Y₀ w0 n) (hag : Agree Y₀ Y) {m i : Nat} (hm : m ≤ i) (hi : i ≤ 20) (hend : i = n ∨ (i = 20 ∧ 21 ≤ n)) (hat : At Y EE w0 ⟨liveE, 0⟩ fn3.ntmps (hd m i) a w)
    (hQ : ∀ a' w', Out Y₀ w0 a' w' → Q (.exit 0) a' w') : cB.wpIn (fence none) 0 EE.P Q a w := by
  have hF' := hF.agree hag
  have hlen := hK.len
  have esl := hag.sls
  rw [shapeB]
  have fin : ∀ {Y' : Sy} {s : Hd}, Agree Y₀ Y' → At Y' EE w0 LL fn3.ntmps s a w → (cl cA1).run rcE none s.tmT [] s.heap noK (keX m) noK = true → (Code.seq cA1 (.seq (.block 1 (.seq cR15 cSW)) cR14)).wpIn (fence none) 0 EE.P Q a w := by
    intro Y' s ag h1 hk
    have hF'' := hF.agree ag
    refine wpIn_seq (wpIn_mono (step_ok ngE (clE_ok hF'' cA1) (rcE_ok hF'') h1 hk) fun e a1 w1 hq => ?_)
    cases e with
    | normal => exact (LeavesB.none hq).elim
    | ret => exact (LeavesB.none hq).elim
    | goto l => exact hq.elim
    | panic ch => exact hq.elim
    | outgrown => exact hq.elim
    | exit id =>
      cases id with
      | succ k => exact (LeavesB.none hq).elim
      | zero => exact hQ a1 w1 ⟨m, Y', by omega, ag, LeavesB.at_less (K := 180) hq keepX_in⟩
  rcases hend with he | ⟨rfl, he⟩
  · have hx := exit_ok i (by omega)
    rw [List.all_eq_true] at hx
    have hx := hx m (List.mem_range.2 (by omega))
    refine fin (hag.trans (agree_ops Y a)) (ofLL (s := hdN m i) ?_) hx
    have h1 : At Y EE w0 ⟨keepM, 0⟩ fn3.ntmps (hd m i) a w := At.less (live := LL.live) (ng := LL.ng) (ofLL hat) (sub_live keepM_in)
    refine h1.turn (agree_ops Y a) rfl rfl rfl (ents_okm (by omega)) live_lt (turn_hdN m i) fun t ht => ?_
    rcases List.mem_cons.1 ht with rfl | ht
    · have e2 : a.tmps.getD 2 undef = .slice (Y.sls 0).1 (Y.sls 0).2.1 (Y.sls 0).2.2 := h1.tmp (t := 2) (by decide) (v := kindsE) (by kernel_rfl) fun ρ => by
        unfold kindsE
        simp only [conc]
        split
        · exact .inl rfl
        · exact .inr rfl
      rw [e2]
      have : tget (hdN m i).tmT 2 = .uslice 0 999 0 0 i := by kernel_rfl
      rw [this]
      simp only [conc, withOps]
      rw [if_pos ⟨by omega, by rw [esl, hlen]; omega⟩]
      rfl
    rcases List.mem_cons.1 ht with rfl | ht
    · have e13 : a.tmps.getD 13 undef = .int .i64 (i : Int) := h1.tmp (t := 13) (by decide) (v := .i64 (i : Int)) (by kernel_rfl) fun ρ => .inl rfl
      rw [e13]
      have : tget (hdN m i).tmT 13 = .i64 (i : Int) := by kernel_rfl
      rw [this]
      rfl
    · exact opq_conc (opq_hdN m i) a t ht rfl
  · obtain h0 | ⟨A, arr, elem, fz, k1, k2, k3, k4, k5, k6⟩ := hK.vals
    · omega
    have hx := last_ok
    rw [List.all_eq_true] at hx
    have hx := hx m (List.mem_range.2 (by omega))
    refine fin hag (s := hdL m) ?_ hx
    exact At.add (ofLL hat) rfl (t := 2) (i := 0) (b₀ := 999) (o₀ := 0) (hi₀ := 9223372036854775807) (by kernel_rfl) (A := A) (by rw [esl]; exact k1) k2 (by rw [esl, hlen]; exact k3) (by rw [esl, hlen]; omega) (by rw [esl, hlen]; exact hK.most) k4
      (by simp; omega) (fun j v hv => by simp at hv)

/-- all rounds -/
theorem loop_ok {Q : Exit → Act → World → Prop} (hF : Fam Y₀) (hK : Kinds Y₀ w0 n) (hQ : ∀ a' w', Out Y₀ w0 a' w' → Q (.exit 0) a' w') : ∀ μ a w, Inv Y₀ w0 n μ a w → (Code.loop cB).wpIn (fence none) 0 EE.P Q a w := by
  refine wpIn_loop_down fun μ a w hi => ?_
  obtain ⟨m, i, Y, hm, hi, hn, rfl, hag, hat⟩ := hi
  by_cases he : i = n ∨ (i = 20 ∧ 21 ≤ n)
  · exact leave_ok' hF hK hag hm hi he hat fun a' w' h => hQ a' w' h
  · exact round_ok hF hK hag hm (by omega) (by omega) hat fun a' w' h => h

/-- behind the loop -/
theorem rest_ok (hF : Fam Y₀) (h : Out Y₀ w0 a w) : cR.wpIn (fence none) 0 EE.P (fun e a' w' => (e = .normal ∨ e = .ret) ∧ ∃ Y', EnvOk Y' EE ∧ LeavesB Y' EE w0 (lvOf EE fn3) fn3.ntmps kr a' w') a w := by
  obtain ⟨m, Y, hm, hag, h1⟩ := h
  have ag := hag.trans (agree_ops Y a)
  have hF' := hF.agree ag
  have h2 : At (withOps Y a) EE w0 ⟨liveE, 0⟩ fn3.ntmps (hx m) a w := h1.turn (agree_ops Y a) rfl rfl rfl (entsX_okm hm) live_lt (turn_hx m) fun t ht => opq_conc (opq_hx m) a t ht rfl
  refine wpIn_mono (step_ok ngE (clE_ok hF' cR) (rcE_ok hF') (ofLL h2) (rests m hm)) fun e a1 w1 hq => ?_
  cases e with
  | normal => exact (LeavesB.none hq).elim
  | ret => exact ⟨.inr rfl, _, EE_ok hF', hq⟩
  | exit id => exact (LeavesB.none hq).elim
  | goto l => exact hq.elim
  | panic ch => exact hq.elim
  | outgrown => exact hq.elim

theorem argsE_le : Nat.ble argsE.length fn3.ntmps = true := by kernel_rfl

/-- the call -/
theorem end_calls (hF : Fam Y₀) (hK : Kinds Y₀ w0 n) : Calls Tryz.prog 3 #[vC (Y₀.ints 0) (Y₀.ints 1) (Y₀.strs 0), vC (Y₀.ints 2) (Y₀.ints 3) (Y₀.strs 1), .slice (Y₀.sls 0).1 (Y₀.sls 0).2.1 (Y₀.sls 0).2.2] w0 fun e w' => e = .returned (.bool true) ∧ RowKit.Below w0.heap.size w0 w' := by
  have hlen := hK.len
  have hmost := hK.most
  refine calls_true (Y := Y₀) (P := Tryz.prog) (args := argsE) (cargs := [_, _, _]) rfl (EE_ok hF) ft3 shape3 argsE_le ?_ fun a hentry => ?_
  · refine concs_cons.2 ⟨_, _, conc_g0 hF _, concs_cons.2 ⟨_, _, conc_g1 hF _, concs_cons.2 ⟨_, _, ?_, rfl, rfl⟩, rfl⟩, rfl⟩
    unfold kindsE
    simp only [conc]
    rw [if_pos ⟨by omega, by rw [hlen]; exact hmost⟩]
    rfl
  · refine prefB ngE (clE_ok hF) (rcP_ok hF) (r := .seq (.seq cP8 (.block 0 (.loop cB))) cR) (fun a1 w1 h1 => ?_) pre a w0 (hentry _ pre_run)
    refine wpIn_seq (prefB ngE (clE_ok hF) (rcP_ok hF) (r := .block 0 (.loop cB)) (fun a2 w2 h2 => ?_) [cP8] a1 w1 h1)
    have h3 : At Y₀ EE w0 ⟨keepM, 0⟩ fn3.ntmps (hd 0 0) a2 w2 := h2.at_less keepM_in
    have h4 : At (withOps Y₀ a2) EE w0 ⟨liveE, 0⟩ fn3.ntmps (hd 0 0) a2 w2 := h3.turn (agree_ops Y₀ a2) rfl rfl rfl (ents_okm (by omega)) live_lt turn_hd0 fun t ht => opq_conc (opq_hd 0 0) a2 t ht rfl
    refine wpIn_block (loop_ok hF hK (fun a3 w3 h5 => ?_) 20 a2 w2 ⟨0, 0, _, by omega, by omega, by omega, by omega, agree_ops Y₀ a2, h4⟩)
    exact rest_ok hF h5

end
end Go.Proofs.YthjlmclljakobaaGreat
