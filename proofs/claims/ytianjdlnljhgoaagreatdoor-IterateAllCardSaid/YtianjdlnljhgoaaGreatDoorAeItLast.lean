/-
  IterateAll: every plan that is right follows a path; the statement's call returns true.
-/
import Derived.Test.YtianjdlnljhgoaaGreatDoorAeItCase
import Derived.Test.YtianjdlnljhgoaaGreatDoorAeItErrs
namespace Go.Proofs.YtianjdlnljhgoaaGreatDoor
open Go.AE Go.RowKit
set_option maxRecDepth 100000

theorem orc_eql {Y : Sy} {x y : AV} {a b : Int} {r : Bool} (hx : ∀ ρ, conc Y ρ x = some (.int .i64 a)) (hy : ∀ ρ, conc Y ρ y = some (.int .i64 b)) (hr : (a == b) = r) : OrcOk Y (.bin .eql x y (.bool r)) :=
  ⟨_, _, .bool r, hx, hy, fun _ => rfl, .inr ⟨_, _, _, _, rfl, rfl⟩, fun P t w => by subst hr; simp [binOp, Op.intCmp]⟩
theorem orc_neq {Y : Sy} {x y : AV} {a b : Int} {r : Bool} (hx : ∀ ρ, conc Y ρ x = some (.int .i64 a)) (hy : ∀ ρ, conc Y ρ y = some (.int .i64 b)) (hr : (a != b) = r) : OrcOk Y (.bin .neq x y (.bool r)) :=
  ⟨_, _, .bool r, hx, hy, fun _ => rfl, .inr ⟨_, _, _, _, rfl, rfl⟩, fun P t w => by subst hr; simp [binOp, Op.intCmp]⟩

theorem conc_us {Y : Sy} {ρ : Rho} {a : Option Addr} {len cap lo hi bk o : Nat} (hY : Y.sls 0 = (a, len, cap)) (h1 : lo ≤ len) (h2 : len ≤ hi) (h3 : lo ≠ 0 → ρ 1 = some ⟨bk, o, cap⟩ ∧ a = some ⟨bk, o, none⟩ ∧ len ≤ cap) : conc Y ρ (.uslice 0 1 0 lo hi) = some (.slice a len cap) := by
  simp only [conc, hY]
  rw [if_pos ⟨h1, h2⟩]
  split
  · rfl
  · rename_i hne
    obtain ⟨k1, k2, k3⟩ := h3 hne
    rw [k1]
    simp only [Option.bind_some]
    rw [if_pos ⟨by rw [k2]; rfl, k3, trivial⟩]

section
variable {it bye : ToldL} {xs : List ToldL} {kd : Int} {d9 : Bool} {sl : Option Addr × Nat × Nat}

theorem env0_ok (Y : Sy) : EnvOk Y (envO env [] []) := envO_ok (env_ok Y) (fun _ _ _ h => by cases h) (fun _ h => by cases h)

theorem envC_ok (hi : inI kd) (h0 : kd ≠ 0) (h1 : kd ≠ 1) : EnvOk (symP it bye xs kd d9 sl) (envO env [] orcC) := by
  refine envO_ok (env_ok _) (fun _ _ _ h => by cases h) fun q hq => ?_
  have hk := fun ρ => conc_k (it := it) (bye := bye) (xs := xs) (d9 := d9) (sl := sl) ρ hi
  unfold orcC at hq
  rcases List.mem_cons.1 hq with rfl | hq
  · exact orc_eql hk (fun _ => rfl) (by simp [h1])
  rcases List.mem_cons.1 hq with rfl | hq
  · exact orc_neq hk (fun _ => rfl) (by simp [h0])
  rw [List.mem_singleton.1 hq]
  exact orc_eql hk (fun _ => rfl) (by simp [h0])

/-- the plan, as it is known -/
theorem plan_concs {ρ : Rho} {m n r : Int} {M N R K U : AV} {v : Value} (hm : conc (symP it bye xs kd d9 sl) ρ M = some (.int .i64 m)) (hn : conc (symP it bye xs kd d9 sl) ρ N = some (.int .i64 n)) (hr : conc (symP it bye xs kd d9 sl) ρ R = some (.int .i64 r))
    (hk : conc (symP it bye xs kd d9 sl) ρ K = some (.int .i64 it.kind)) (hu : conc (symP it bye xs kd d9 sl) ρ U = some v) (hp : PlainT it) (hq : PlainT bye) (hb : inI bye.kind) :
    concs (symP it bye xs kd d9 sl) ρ (planP M N R K U) = some (planC m n r it bye v).toList := by
  have c1 := conc_b (symP it bye xs kd d9 sl) ρ 1 it.done rfl
  have c5 := conc_b (symP it bye xs kd d9 sl) ρ 5 bye.done rfl
  have c2 : conc (symP it bye xs kd d9 sl) ρ (.sint .i64 (.var 2) (-9007199254740992) 9007199254740992) = some (.int .i64 it.n) := if_pos ⟨hp.2.2.1, hp.2.2.2⟩
  have c6 : conc (symP it bye xs kd d9 sl) ρ (.sint .i64 (.var 6) (-9007199254740992) 9007199254740992) = some (.int .i64 bye.n) := if_pos ⟨hq.2.2.1, hq.2.2.2⟩
  have c4 : conc (symP it bye xs kd d9 sl) ρ (.sint .i64 (.var 4) (-9223372036854775808) 9223372036854775807) = some (.int .i64 bye.kind) := if_pos hb
  obtain ⟨p1, p2, _, _⟩ := hp
  obtain ⟨q1, q2, _, _⟩ := hq
  have e1 : Value.int .i64 it.vk = .int .i64 3 := by rw [p1]
  have e2 : Value.string it.s = .string (bytesV []) := by rw [p2]; rfl
  have e3 : Value.int .i64 bye.vk = .int .i64 3 := by rw [q1]
  have e4 : Value.string bye.s = .string (bytesV []) := by rw [q2]; rfl
  have e : (planC m n r it bye v).toList = [.int .i64 m, .int .i64 n, .int .i64 r, .int .i64 it.kind, .bool it.done, .int .i64 3, .int .i64 it.n, .string (bytesV []), .int .i64 bye.kind, .bool bye.done, .int .i64 3, .int .i64 bye.n, .string (bytesV []), v] := by
    unfold planC
    rw [e1, e2, e3, e4]
  rw [e]
  exact concs_one hm (concs_one hn (concs_one hr (concs_one hk (concs_one c1 (concs_one rfl (concs_one c2 (concs_one rfl (concs_one c4 (concs_one c5 (concs_one rfl (concs_one c6 (concs_one rfl (concs_one hu rfl)))))))))))))

end

theorem nat_of {r : Int} (h0 : 0 ≤ r) (n : Nat) (h : r ≤ n) : ∃ k : Nat, k ≤ n ∧ r = .ofNat k := ⟨r.toNat, by omega, by have : (r.toNat : Int) = r := Int.toNat_of_nonneg h0; exact this.symm⟩

theorem isCell_planP {m n r k U : AV} (h : isCell m = true) (h1 : isCell n = true) (h2 : isCell r = true) (h3 : isCell k = true) (h4 : isCell U = true) : (planP m n r k U).all isCell = true := by
  unfold planP opqs
  simp only [List.all_cons, List.all_append, List.all_nil, h, h1, h2, h3, h4]
  rfl

/-- every plan that is right follows a path -/
theorem paths_ok (m n r : Int) (it bye : ToldL) (xs : List ToldL) (v : Value) (w : World) (hs : SlAt w w.heap.size 5 v (xs.map toldC)) (hcap : ∀ a len cap, v = .slice a len cap → len ≤ cap) (hk : inI it.kind) (hbk : inI bye.kind) (hxk : ∀ x ∈ xs, inI x.kind) (hR : RightP m n r it bye xs) :
    ∃ Y, PathY Y w (planC m n r it bye v).toList := by
  obtain ⟨a, cap, rfl, hcells⟩ := hs
  rw [List.length_map]
  have hcap' := hcap a xs.length cap (by rw [List.length_map])
  obtain ⟨m', hm', rfl⟩ := nat_of hR.m0 2 hR.m1
  obtain ⟨n', hn', rfl⟩ := nat_of hR.n0 2 hR.n1
  obtain ⟨r', hr', rfl⟩ := nat_of hR.r0 3 hR.r1
  have hr4 : r' = 0 ∨ r' = 1 ∨ r' = 2 ∨ r' = 3 := by omega
  have hn3 : n' = 0 ∨ n' = 1 ∨ n' = 2 := by omega
  have us0 : ∀ (kd : Int) (d9 : Bool) (ρ : Rho), conc (symP it bye xs kd d9 (a, xs.length, cap)) ρ (us 0) = some (.slice a xs.length cap) := fun kd d9 ρ => conc_us (bk := 0) (o := 0) rfl (Nat.zero_le _) hR.few (fun h => absurd rfl h)
  by_cases hm0 : m' = 0
  case neg =>
    refine ⟨symP it bye xs 0 false (a, xs.length, cap), ⟨[], [], _, [], [], none, env0_ok _, SumsOk.nil, allE1 m' n' r' (by omega) hn3 hr4, isCell_planP rfl rfl rfl rfl rfl, fun ρ _ => ?_, fun ρ _ W _ => .none⟩⟩
    exact plan_concs rfl rfl rfl (if_pos hk) (us0 _ _ _) hR.it hR.bye hbk
  subst hm0
  by_cases hk0 : it.kind = 0
  case neg =>
    by_cases hk1 : it.kind = 1
    · refine ⟨symP it bye xs 0 false (a, xs.length, cap), ⟨[], [], _, [], [], none, env0_ok _, SumsOk.nil, allE2 n' r' hn3 hr4, isCell_planP rfl rfl rfl rfl rfl, fun ρ _ => ?_, fun ρ _ W _ => .none⟩⟩
      exact plan_concs rfl rfl rfl (by rw [hk1]; rfl) (us0 _ _ _) hR.it hR.bye hbk
    · refine ⟨symP it bye xs it.kind false (a, xs.length, cap), ⟨orcC, [], _, [], [], none, envC_ok hk hk0 hk1, SumsOk.nil, allE2c n' r' hn3 hr4, isCell_planP rfl rfl rfl rfl rfl, fun ρ _ => ?_, fun ρ _ W _ => .none⟩⟩
      exact plan_concs rfl rfl rfl (conc_k ρ hk) (us0 _ _ _) hR.it hR.bye hbk
  by_cases hn0 : n' = 0
  case neg =>
    refine ⟨symP it bye xs 0 false (a, xs.length, cap), ⟨[], [], _, [], [], none, env0_ok _, SumsOk.nil, allE3 n' r' (by omega) hr4, isCell_planP rfl rfl rfl rfl rfl, fun ρ _ => ?_, fun ρ _ W _ => .none⟩⟩
    exact plan_concs rfl rfl rfl (by rw [hk0]; rfl) (us0 _ _ _) hR.it hR.bye hbk
  subst hn0
  have hr4' : r' < 4 := by omega
  -- the steps
  have goAll : ∀ (kd : Int) (d9 : Bool) (k : Nat), (∀ j (h : j < xs.length), j < k → Cont xs[j]) → ∀ j (h : j < xs.length), j < k → StepAs (symP it bye xs kd d9 (a, xs.length, cap)) (goAV j) xs[j] := fun kd d9 k hc j h hj => step_go j h (hR.all _ (List.getElem_mem h)) (hc j h hj)
  have main : ∀ (kd : Int) (d9 : Bool) (os : List Orc) (k : Nat) (hkl : k < xs.length) (last : List AV), EnvOk (symP it bye xs kd d9 (a, xs.length, cap)) (envO env [] os) → pathX (envO env [] os) r' k last = true → last.length = 5 → (∀ j (h : j < xs.length), j < k → Cont xs[j]) → StepAs (symP it bye xs kd d9 (a, xs.length, cap)) last xs[k] →
      PathY (symP it bye xs kd d9 (a, xs.length, cap)) w (planC (.ofNat 0) (.ofNat 0) (.ofNat r') it bye (.slice a xs.length cap)).toList := by
    intro kd d9 os k hkl last hE hrun hl5 hc hst
    obtain ⟨bk, o, rfl, hbk', hcell⟩ := hcells (by intro h; rw [List.map_eq_nil_iff] at h; subst h; exact absurd hkl (Nat.not_lt_zero _))
    have hfew := hR.few
    refine ⟨os, _, _, _, _, some ⟨bk, o, cap⟩, hE, SumsOk.envO [] os (sumsP_ok r' k hr4' (by omega) (same2_uslice (.inl rfl) (Nat.le_refl _) (Nat.zero_le _)) fun i hi => ⟨same2_uslice (.inr ⟨by omega, by omega⟩) (Nat.le_refl _) (by omega), more_row (by omega) last⟩), hrun, isCell_planP rfl rfl rfl rfl rfl, fun ρ hρ => ?_, fun ρ _ W hb => ?_⟩
    · exact plan_concs rfl rfl rfl (by rw [hk0]; rfl) (conc_us rfl (by omega) hR.few (fun _ => ⟨hρ, rfl, hcap'⟩)) hR.it hR.bye hbk
    · refine row_known hcell hbk' hb _ (by intro h; have := congrArg List.length h; simp [hl5] at this) (fun ρ i v hv => ?_) ρ
      obtain ⟨j, c, h1, h2, _, _, h3, h4⟩ := five k last hl5 hkl (goAll kd d9 k hc) (fun _ => hst) ρ i v hv
      exact ⟨j, c, h1, h2, h3, h4⟩
  have hfew := hR.few
  rcases first_stop xs with hall | ⟨k, hkl, hc, hnc⟩
  · -- all steps go on
    refine ⟨symP it bye xs 0 false (a, xs.length, cap), ?_⟩
    by_cases h0 : xs.length = 0
    · have hrun := allD r' 0 hr4' (by omega)
      refine ⟨[], _, _, _, _, none, env0_ok _, SumsOk.envO [] [] (sumsP_ok r' 0 hr4' (by omega) (U' := uEnd 0) (R' := rowP (goOn 0)) (same2_uslice (.inl rfl) (by omega) (Nat.zero_le _)) fun i hi => absurd hi (Nat.not_lt_zero _)), hrun, isCell_planP rfl rfl rfl rfl rfl, fun ρ _ => ?_, fun ρ _ W _ => .none⟩
      exact plan_concs rfl rfl rfl (by rw [hk0]; rfl) (conc_us (bk := 0) (o := 0) rfl (Nat.zero_le _) (by omega) (fun h => absurd rfl h)) hR.it hR.bye hbk
    · obtain ⟨bk, o, rfl, hbk', hcell⟩ := hcells (by intro h; rw [List.map_eq_nil_iff] at h; subst h; exact h0 rfl)
      obtain ⟨k, hkk⟩ : ∃ k, xs.length = k + 1 := ⟨xs.length - 1, by omega⟩
      have hrun := allD r' (k + 1) hr4' (by omega)
      refine ⟨[], _, _, _, _, some ⟨bk, o, cap⟩, env0_ok _, SumsOk.envO [] [] (sumsP_ok r' (k + 1) hr4' (by omega) (U' := uEnd (k + 1)) (R' := rowP (goOn (k + 1))) (same2_uslice (.inl rfl) (by omega) (Nat.zero_le _)) fun i hi => ⟨same2_uslice (.inr ⟨by omega, by omega⟩) (by omega) (by omega), more_end (by omega)⟩), hrun, isCell_planP rfl rfl rfl rfl rfl, fun ρ hρ => ?_, fun ρ _ W hb => ?_⟩
      · exact plan_concs rfl rfl rfl (by rw [hk0]; rfl) (conc_us rfl (by omega) (by omega) (fun _ => ⟨hρ, rfl, hcap'⟩)) hR.it hR.bye hbk
      · refine row_known hcell hbk' hb _ (by intro h; have := congrArg List.length h; rw [goOn_len] at this; simp at this) (fun ρ i v hv => ?_) ρ
        rw [goOn_succ] at hv
        obtain ⟨j, c, h1, h2, _, _, h3, h4⟩ := five k (goAV k) rfl (by omega) (goAll 0 false k fun j h _ => hall j h) (fun h => step_go k h (hR.all _ (List.getElem_mem h)) (hall k h)) ρ i v hv
        exact ⟨j, c, h1, h2, h3, h4⟩
  · have hp := hR.all _ (List.getElem_mem hkl)
    have hki := hxk _ (List.getElem_mem hkl)
    by_cases c0 : xs[k].kind = 0
    · have c1 : xs[k].done = true := by
        cases hd : xs[k].done with
        | true => rfl
        | false => exact absurd ⟨c0, hd⟩ hnc
      exact ⟨_, main 0 false [] k hkl (lastA k) (env0_ok _) (allA r' k hr4' (by omega)) rfl hc (step_a k hkl hp c0 c1)⟩
    by_cases c1 : xs[k].kind = 1
    · exact ⟨_, main 0 xs[k].done [] k hkl (lastB k) (env0_ok _) (allB r' k hr4' (by omega)) rfl hc (step_b k hkl hp c1 rfl)⟩
    · exact ⟨_, main xs[k].kind xs[k].done orcC k hkl (lastC k) (envC_ok hki c0 c1) (allC r' k hr4' (by omega)) rfl hc (step_c k hkl hp hki rfl rfl)⟩

/-- the call -/
theorem iterateAll_ret (m n r : Int) (it bye : ToldL) (xs : List ToldL) (v : Value) (w : World) (hs : SlAt w w.heap.size 5 v (xs.map toldC)) (hcap : ∀ a len cap, v = .slice a len cap → len ≤ cap) (hk : inI it.kind) (hbk : inI bye.kind) (hxk : ∀ x ∈ xs, inI x.kind) :
    Calls Tryz.prog 3 #[.agg (planC m n r it bye v)] w fun e w' => e = .returned (.bool true) ∧ Below w.heap.size w w' := by
  by_cases hR : RightP m n r it bye xs
  · obtain ⟨Y, hY⟩ := paths_ok m n r it bye xs v w hs hcap hk hbk hxk hR
    exact law_ret (Y := Y) m n r it bye xs v w hs fun _ => hY
  · exact law_ret (Y := ⟨fun _ => 0, fun _ => .empty, fun _ => (none, 0, 0), fun _ => undef⟩) m n r it bye xs v w hs fun h => absurd h hR

end Go.Proofs.YtianjdlnljhgoaaGreatDoor
