/-
  Which codes are right: the reference's answer is the program's.
-/
import Derived.Test.YtnkidmnddkmilaaGreatDoorAeAsRRight
namespace Go.Proofs.YtnkidmnddkmilaaGreatDoor
open Go.RowKit
set_option maxRecDepth 100000

set_option maxHeartbeats 4000000 in
theorem rright_no (s : ByteArray) (k l r : Int) (vi vp vk vg : Value) (h : ¬ (0 ≤ k ∧ k ≤ 255 ∧ 0 ≤ l ∧ l ≤ 1024 ∧ 0 ≤ r ∧ r ≤ 4096)) (w : World) :
    Calls Tryz.prog 21 #[.agg #[.string s, .int .i64 k, .int .i64 l, .int .i64 r, vi, vp, vk, vg]] w fun e w' => e = .returned (.bool false) ∧ Below w.heap.size w w' := by
  have hb0 : Below w.heap.size w (w.alloc (.cells #[.string s, .int .i64 k, .int .i64 l, .int .i64 r, vi, vp, vk, vg] 36)) := (Below.refl _ _).alloc (Nat.le_refl _) _
  by_cases c1 : k < 0
  · clear h
    go_enter Tryz.func21, Tryz.ntmps21
    go_wp2
    go_ret
    exact ⟨rfl, hb0⟩
  have d1 : decide (k < 0) = false := by simpa using c1
  by_cases c2 : 255 < k
  · clear h c1
    go_enter Tryz.func21, Tryz.ntmps21
    go_wp2
    go_ret
    exact ⟨rfl, hb0⟩
  have d2 : decide (255 < k) = false := by simpa using c2
  by_cases c3 : l < 0
  · clear h c1 c2
    go_enter Tryz.func21, Tryz.ntmps21
    go_wp2
    go_ret
    exact ⟨rfl, hb0⟩
  have d3 : decide (l < 0) = false := by simpa using c3
  by_cases c4 : 1024 < l
  · clear h c1 c2 c3
    go_enter Tryz.func21, Tryz.ntmps21
    go_wp2
    go_ret
    exact ⟨rfl, hb0⟩
  have d4 : decide (1024 < l) = false := by simpa using c4
  by_cases c5 : r < 0
  · clear h c1 c2 c3 c4
    go_enter Tryz.func21, Tryz.ntmps21
    go_wp2
    go_ret
    exact ⟨rfl, hb0⟩
  have d5 : decide (r < 0) = false := by simpa using c5
  have c6 : 4096 < r := by omega
  clear h c1 c2 c3 c4 c5
  go_enter Tryz.func21, Tryz.ntmps21
  go_wp2
  go_ret
  exact ⟨rfl, hb0⟩

theorem headB_iff (c : CodeL) : headB c = true ↔ (0 ≤ c.kind ∧ c.kind ≤ 255 ∧ 0 ≤ c.len ∧ c.len ≤ 1024 ∧ 0 ≤ c.regs ∧ c.regs ≤ 4096) := by
  unfold headB inB
  simp only [Bool.and_eq_true, decide_eq_true_eq]
  omega

theorem rright_ret (c : CodeL) (B : Nat) (vi vp vk vg : Value) (hw : Few c) (hn : Nums c) (w : World) (hB : B ≤ w.heap.size) (hc : CodeAt w B c vi vp vk vg) :
    Calls Tryz.prog 21 #[.agg #[.string c.name, .int .i64 c.kind, .int .i64 c.len, .int .i64 c.regs, vi, vp, vk, vg]] w fun e w' => e = .returned (.bool (rightB c)) ∧ Below w.heap.size w w' := by
  cases hh : headB c with
  | false =>
    have e : rightB c = false := by unfold rightB; rw [hh]; rfl
    rw [e]
    refine rright_no _ _ _ _ _ _ _ _ (fun h => ?_) w
    rw [(headB_iff c).2 h] at hh
    cases hh
  | true =>
    obtain ⟨k0, k1, l0, l1, r0, r1⟩ := (headB_iff c).1 hh
    obtain ⟨ai, ci, rfl⟩ := hc.ins.slice
    obtain ⟨ap, cp, rfl⟩ := hc.pool.slice
    obtain ⟨ak, ck, rfl⟩ := hc.keys.slice
    obtain ⟨ag, cg, rfl⟩ := hc.guards.slice
    have e : rightB c = ((c.ins.all fun x => insB c x) && ((c.pool.all fun v => valB v.k v.n v.s) && ((c.keys.all fun v => keyB v.k v.n v.s) && (c.guards.all fun x => guB c x)))) := by
      unfold rightB
      rw [hh]
      generalize (c.ins.all fun x => insB c x) = a1
      generalize (c.pool.all fun v => valB v.k v.n v.s) = a2
      generalize (c.keys.all fun v => keyB v.k v.n v.s) = a3
      generalize (c.guards.all fun x => guB c x) = a4
      cases a1 <;> cases a2 <;> cases a3 <;> cases a4 <;> rfl
    rw [e]
    simp only [List.length_map] at hc ⊢
    exact rright_yes c ai ci ap cp ak ck ag cg hw hn k0 k1 l0 l1 r0 r1 B w hB hc

end Go.Proofs.YtnkidmnddkmilaaGreatDoor
