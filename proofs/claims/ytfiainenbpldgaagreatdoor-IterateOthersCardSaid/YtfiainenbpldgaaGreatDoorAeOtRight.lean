/-
  IterateOthers: cell.Right of a record.
-/
import Derived.Test.YtfiainenbpldgaaGreatDoorAeOtAll
namespace Go.Proofs.YtfiainenbpldgaaGreatDoor
open Go.RowKit Go.Shelf
set_option maxRecDepth 100000
set_option linter.unusedVariables false
set_option linter.unusedSimpArgs false
attribute [local go_sem] Oper.semAt_some

set_option maxHeartbeats 1000000 in
/-- cell.all: the cell is boxed; the function value captures the box -/
theorem all_in (F : Fence) (n : Nat) (h145 : F.fn 145) (hro : F.round = none) (k sh fl ag : Int) (m : Value) (hm : ∃ a x c, m = .slice a x c) (w : World) :
    CallsIn F n Tryz.prog 145 #[cellA k sh fl ag m] w fun e w' => e = .returned (.func (.func 184) #[] #[.pointer (some ⟨w.heap.size, 0, none⟩)]) ∧ w' = w.alloc (.cells #[.int .i64 k, .int .i64 sh, .int .i64 fl, .int .i64 ag, .slice none 0 0, m] 66) := by
  obtain ⟨a, x, c, rfl⟩ := hm
  unfold cellA
  refine callsIn_of_wp Tryz.func145 rfl h145 ?_ hro
  simp only [Tryz.ntmps145, List.size_toArray, List.length_cons, List.length_nil, Nat.reduceAdd, Nat.reduceSub, Array.replicate_succ, Array.replicate_zero, List.push_toArray, List.append_toArray, List.nil_append, List.cons_append]
  gi_wp2
  go_ret
  exact ⟨rfl, rfl⟩

/-- the iterator -/
theorem all_stops (F : Fence) (n : Nat) (h184 : F.fn 184) (hro : F.round = none) (hn : 1 ≤ n) (Bc n₀ b o c : Nat) (sh fl ag : Int) (xs : List OkL) (hl : xs.length ≤ 100000) (hb : b < n₀) (hB : Bc < n₀) (w : World) (hn₀ : n₀ ≤ w.heap.size)
    (hbox : w.heap[Bc]? = some (.cells #[.int .i64 7, .int .i64 sh, .int .i64 fl, .int .i64 ag, .slice none 0 0, .slice (some ⟨b, o, none⟩) xs.length c] 66 (0, 0))) (hc : Lie w b o (xs.map (·.1))) :
    SeqStopsK F n Tryz.prog 184 #[.pointer (some ⟨Bc, 0, none⟩)] (fun x : OkL => #[Value.bool true, aV x.1]) (Below n₀) (fun ys => ys = xs) (fun pre => pre <+: xs) xs.length w := fun l J Jx W hW hJ _ hY h0 => by
  have hsz := hW.size
  refine all1_in F n h184 hro hn l Bc n₀ b o c sh fl ag xs hl hb hB J Jx (fun pre A B hA hAB => hJ pre A B none hA (below_grownBy hAB) (fun r e => by cases e)) hY W (Nat.le_trans hn₀ hsz) ?_ (hc.mono hW (by omega)) h0
  rw [hW.block Bc (by omega)]
  exact hbox

theorem ret_bool {a b : Bool} (h : a = b) : Ending.returned (.bool a) = .returned (.bool b) := by rw [h]

/-- the slots of a record -/
theorem slots_ret (a : Option Addr) (x c : Nat) (w : World) : Calls Tryz.prog 147 #[cellA 7 0 0 0 (.slice a x c)] w fun e w' => e = .returned (.bool true) ∧ Below w.heap.size w w' := by
  have run : AE.evKn env [] 300 100 (.fn 147) [.agg [.i64 7, .i64 0, .i64 0, .i64 0, .nilslice, .oslice 0]] ⟨.nil, 0, [], []⟩ (fun v _ => AE.sameV v (.bool true)) = true := by kernel_rfl
  have hg := AE.gives_of_run (Y := ⟨fun _ => 0, fun _ => ⟨#[]⟩, fun _ => (a, x, c), fun _ => undef⟩) (env_ok _) AE.KnownOk.nil rfl run
  exact AE.Gives.returns hg (cargs := [cellA 7 0 0 0 (.slice a x c)]) rfl rfl w

set_option maxHeartbeats 1000000 in
theorem number_ret (n lo hi : Int) (h0 : lo ≤ n) (h1 : n ≤ hi) (w : World) : Calls Tryz.prog 187 #[.agg #[.int .i64 3, .int .i64 n, .string ⟨#[]⟩], .int .i64 lo, .int .i64 hi] w fun e w' => e = .returned (.bool true) ∧ Below w.heap.size w w' := by
  have hb0 := Lib.hid (new_below w (.cells #[.int .i64 3, .int .i64 n, .string ⟨#[]⟩] 23))
  go_enter Tryz.func187, Tryz.ntmps187
  go_wp2
  go_ret
  refine ⟨ret_bool ?_, hb0.out⟩
  simp

set_option maxHeartbeats 2000000 in
theorem more_ret (b o n c : Nat) (hn : 4 ≤ n) (hl : n ≤ 100000) (v2 v3 : Int) (h20 : 0 ≤ v2) (h21 : v2 ≤ 1) (h30 : 0 ≤ v3) (h31 : v3 ≤ 9007199254740992) (w : World) (hb : b < w.heap.size)
    (c6 : w.cell? ⟨b, o + 6, none⟩ = some (.int .i64 3)) (c7 : w.cell? ⟨b, o + 6 + 1, none⟩ = some (.int .i64 v2)) (c8 : w.cell? ⟨b, o + 6 + 2, none⟩ = some (.string ⟨#[]⟩))
    (c9 : w.cell? ⟨b, o + 9, none⟩ = some (.int .i64 3)) (c10 : w.cell? ⟨b, o + 9 + 1, none⟩ = some (.int .i64 v3)) (c11 : w.cell? ⟨b, o + 9 + 2, none⟩ = some (.string ⟨#[]⟩)) :
    Calls Tryz.prog 148 #[.int .i64 7, .slice (some ⟨b, o, none⟩) n c] w fun e w' => e = .returned (.bool true) ∧ Below w.heap.size w w' := by
  have hk2 : decide (n ≤ 2) = false := by simp; omega
  have hk3 : decide (n ≤ 3) = false := by simp; omega
  go_enter Tryz.func148, Tryz.ntmps148
  go_wp2_with (first
    | (go_at_call 187; with_reducible refine (number_ret v2 0 1 h20 h21 _).mono ?_; rintro e w1 ⟨rfl, hb1⟩; have d9 := (hb1.cell (p := ⟨b, o + 9, none⟩) hb).trans c9; have d10 := (hb1.cell (p := ⟨b, o + 9 + 1, none⟩) hb).trans c10; have d11 := (hb1.cell (p := ⟨b, o + 9 + 2, none⟩) hb).trans c11; replace hb1 := Lib.hid hb1)
    | (go_at_call 187; with_reducible refine (number_ret v3 0 9007199254740992 h30 h31 _).mono ?_; rintro e w3 ⟨rfl, hb3⟩; replace hb3 := Lib.hid hb3))
  go_ret
  exact ⟨rfl, hb1.out.trans (hb3.out.mono hb1.out.size)⟩

theorem cells_kept {X Y : World} {b : Nat} {cs : Array Value} {T : TypeId} {fr : Nat × Nat} {row : Option Nat} (h : X.heap[b]? = some (.cells cs T fr)) (hg : X.grownBy Y row) (hr : ∀ r, row = some r → ∃ o : Obj, X.heap[r]? = some o ∧ o.isCells = false) : Y.heap[b]? = some (.cells cs T fr) := by
  have hlt := (Array.getElem?_eq_some_iff.1 h).1
  rw [hg.block b hlt ?_]
  · exact h
  · intro e
    obtain ⟨o, ho, hc⟩ := hr b e.symm
    rw [h] at ho
    cases ho
    cases hc

theorem keeps_below {W W' : World} (h : Below W.heap.size W W') : KeepsOthers W W' := KeepsOthers.of_grownBy (below_grownBy h) (fun r o e _ => by cases e)

theorem box3 {W : World} {b : Nat} {a0 a1 a2 : Value} {T : TypeId} (h : W.heap[b]? = some (.cells #[a0, a1, a2] T (0, 0))) :
    W.cell? ⟨b, 0, none⟩ = some a0 ∧ W.cell? ⟨b, 1, none⟩ = some a1 ∧ W.cell? ⟨b, 2, none⟩ = some a2 ∧ ∀ j, W.frozen? ⟨b, j, none⟩ = false :=
  ⟨(Lib.cell_of_heap h 0).trans rfl, (Lib.cell_of_heap h 1).trans rfl, (Lib.cell_of_heap h 2).trans rfl, Lib.frozen_of_heap h⟩

set_option maxHeartbeats 4000000 in
theorem right_ok (b o c : Nat) (xs : List OkL) (hx : 4 ≤ xs.length) (hl : xs.length ≤ 100000) (v2 v3 : Int) (h20 : 0 ≤ v2) (h21 : v2 ≤ 1) (h30 : 0 ≤ v3) (h31 : v3 ≤ 9007199254740992)
    (h2 : (xs.map (·.1))[2]? = some ⟨3, v2, ⟨#[]⟩⟩) (h3 : (xs.map (·.1))[3]? = some ⟨3, v3, ⟨#[]⟩⟩) (w : World) (hb : b < w.heap.size) (hc : Lie w b o (xs.map (·.1))) :
    Calls Tryz.prog 96 #[cellA 7 0 0 0 (.slice (some ⟨b, o, none⟩) xs.length c)] w fun e w' => e = .returned (.bool true) ∧ Below w.heap.size w w' := by
  refine (callsIn_wide (n := 9)).1 ?_
  unfold cellA
  refine callsIn_of_wp_marks Tryz.func96 rfl trivial ?_ rfl
  simp only [Tryz.ntmps96, List.size_toArray, List.length_cons, List.length_nil, Nat.reduceAdd, Nat.reduceSub, Array.replicate_succ, Array.replicate_zero, List.push_toArray, List.append_toArray, List.nil_append, List.cons_append]
  gi_wp2_with (refine ⟨trivial, ?_⟩; gi_at_call 145; refine (all_in _ _ trivial rfl 7 0 0 0 _ ⟨_, _, _, rfl⟩ _).mono ?_; rintro e w' ⟨rfl, rfl⟩)
  obtain ⟨k0, k1⟩ := two_al w (.cells #[.int .i64 7, .int .i64 0, .int .i64 0, .int .i64 0, .slice none 0 0, .slice (some ⟨b, o, none⟩) xs.length c] 66) (.cells #[.bool false] 4)
  have hb0 := below_al2 w (.cells #[.int .i64 7, .int .i64 0, .int .i64 0, .int .i64 0, .slice none 0 0, .slice (some ⟨b, o, none⟩) xs.length c] 66) (.cells #[.bool false] 4)
  obtain ⟨W1, hW1⟩ : ∃ W1, (w.alloc (.cells #[.int .i64 7, .int .i64 0, .int .i64 0, .int .i64 0, .slice none 0 0, .slice (some ⟨b, o, none⟩) xs.length c] 66)).alloc (.cells #[.bool false] 4) = W1 := ⟨_, rfl⟩
  have hz1 : W1.heap.size = w.heap.size + 2 := by rw [← hW1]; simp
  have k2 := heap_alloc_new W1 (.cells #[.int .i64 7, .int .i64 0, .int .i64 0, .int .i64 0, .slice none 0 0, .slice (some ⟨b, o, none⟩) xs.length c] 66)
  have hb1 := new_below W1 (.cells #[.int .i64 7, .int .i64 0, .int .i64 0, .int .i64 0, .slice none 0 0, .slice (some ⟨b, o, none⟩) xs.length c] 66)
  rw [hW1] at k0 k1 hb0 ⊢
  have k0' := keep_below hb1 k0
  have k1' := keep_below hb1 k1
  obtain ⟨W0, hW0⟩ : ∃ W0, W1.alloc (.cells #[.int .i64 7, .int .i64 0, .int .i64 0, .int .i64 0, .slice none 0 0, .slice (some ⟨b, o, none⟩) xs.length c] 66) = W0 := ⟨_, rfl⟩
  have hz0 : W0.heap.size = w.heap.size + 3 := by rw [← hW0]; simp [hz1]
  have hbel : Below w.heap.size w W0 := by rw [← hW0]; exact hb0.trans (hb1.mono hb0.size)
  rw [hW0] at k2 k0' k1' ⊢
  rw [hz1] at k2
  clear hW0 hW1 hb0 hb1 k0 k1
  refine wpIn_rangeFunc_ownH rfl (by omega) (gf := 184) (lb := #[.pointer (some ⟨w.heap.size + 2, 0, none⟩)]) rfl trivial (enters_of Tryz.func184 (by kernel_rfl) rfl)
    (all_stops _ _ trivial rfl (by omega) (w.heap.size + 2) W0.heap.size b o c 0 0 0 xs hl (by omega) (by omega) W0 (Nat.le_refl _) k2 (hc.mono hbel hb)) belowK_t (belowK_b (by omega)) (Below.refl _ _) (fun _ => rfl)
    (fun _ W => Below W0.heap.size W0 W)
    (fun _ _ _ => False)
    (ownFrom_below (Nat.le_refl _) (Nat.le_refl _))
    (fun _ _ _ _ _ hs _ _ => hs)
    (Below.refl _ _)
    (fun x a' W => ∃ Bx, W.heap[Bx]? = some (.cells #[.int .i64 x.1.k, .int .i64 x.1.n, .string x.1.s] 23 (0, 0)) ∧ a' = { tmps := #[.agg #[.int .i64 7, .int .i64 0, .int .i64 0, .int .i64 0, .slice none 0 0, .slice (some ⟨b, o, none⟩) xs.length c], .pointer (some ⟨w.heap.size, 0, none⟩), .pointer (some ⟨w.heap.size + 1, 0, none⟩), undef, .pointer (some ⟨Bx, 0, none⟩), .pointer (some ⟨w.heap.size, 0, none⟩), .int .i64 7, .bool false, .bool false, .pointer (some ⟨w.heap.size, 0, none⟩), .int .i64 7, .bool false, .bool false, .bool false, .pointer (some ⟨w.heap.size, 1, none⟩), .int .i64 0, .bool false, .bool false, .bool false, .pointer (some ⟨w.heap.size, 2, none⟩), .int .i64 0, .bool false, .bool false, .bool false, .pointer (some ⟨w.heap.size, 2, none⟩), .int .i64 0, .bool false, .bool false, .bool false, .pointer (some ⟨w.heap.size, 3, none⟩), .int .i64 0, .bool false, .bool false, undef, undef, undef, .bool false, .bool false, .agg #[.int .i64 7, .int .i64 0, .int .i64 0, .int .i64 0, .slice none 0 0, .slice (some ⟨b, o, none⟩) xs.length c], .func (.func 184) #[] #[.pointer (some ⟨w.heap.size + 1 + 1, 0, none⟩)], .bool true, .agg #[.int .i64 x.1.k, .int .i64 x.1.n, .string x.1.s], undef, undef, undef, undef, undef, undef, undef, undef, undef, undef, undef, undef], defers := [] })
    (fun x a' _ X Y row hs hg hr => by obtain ⟨Bx, h1, h2⟩ := hs; exact ⟨Bx, cells_kept h1 hg (fun r e => (hr r e).2), h2⟩)
    ?assign ?body ?done ?stop
  case assign =>
    rintro l pre x W K hI hK
    unfold aV
    gi_wp2
    exact hK _ _ ((KeepsOthers.alloc _ _).from _) ((new_below W _).mono hI.size) (hI.alloc hI.size _) ⟨W.heap.size, heap_alloc_new W _, rfl⟩
  case body =>
    rintro l pre x a' W hl' ⟨r, hr⟩ hI ⟨Bx, hbx, rfl⟩ hlt
    obtain ⟨q0, q1, q2, qf⟩ := box3 hbx
    gi_wp2_with (refine ⟨trivial, ?_⟩; gi_at_call 146; refine (CallsIn.inRound l (callsIn_wide.2 (may_calls x W))).mono ?_; rintro e w' ⟨rfl, hbm⟩)
    exact ⟨(keeps_below hbm).from _, hbm.mono hI.size, hI.trans (hbm.mono hI.size)⟩
  case done =>
    rintro D ys W hD rfl hI hK
    have hlt0 := hbel.size
    have e0 : W.heap[w.heap.size]? = _ := (hI.block _ (by omega)).trans k0'
    have e1 : W.heap[w.heap.size + 1]? = _ := (hI.block _ (by omega)).trans k1'
    obtain ⟨p0, p1, p2, p3, p4, p5, pf⟩ := box6 e0
    have s0 : W.cell? ⟨w.heap.size + 1, 0, none⟩ = some (.bool false) := (Lib.cell_of_heap e1 0).trans rfl
    have sf := Lib.frozen_of_heap e1 0
    have hbw : Below w.heap.size w W := hbel.trans (hI.mono hbel.size)
    have hcW := hc.mono hbw hb
    obtain ⟨c6, c7, c8⟩ := lie_cells hcW h2
    obtain ⟨c9, c10, c11⟩ := lie_cells hcW h3
    have hbW := Nat.lt_of_lt_of_le hb hbw.size
    have HC := Lib.hid hcW
    clear hc hcW hlt0
    gi_wp2_with (first
      | (refine ⟨trivial, ?_⟩; gi_at_call 147; refine (callsIn_wide.2 (slots_ret (some ⟨b, o, none⟩) ys.length c _)).mono ?_; rintro e w1 ⟨rfl, hs1⟩; clear p0 p1 p2 p3 p4 p5 pf s0 sf c6 c7 c8 c9 c10 c11; obtain ⟨p0, p1, p2, p3, p4, p5, pf⟩ := box6 (keep_below hs1 e0); obtain ⟨c6, c7, c8⟩ := lie_cells (HC.out.mono hs1 hbW) h2; obtain ⟨c9, c10, c11⟩ := lie_cells (HC.out.mono hs1 hbW) h3; have hbW1 := Nat.lt_of_lt_of_le hbW hs1.size; replace hs1 := Lib.hid hs1)
      | (refine ⟨trivial, ?_⟩; gi_at_call 148; refine (callsIn_wide.2 (more_ret b o ys.length c hx hl v2 v3 h20 h21 h30 h31 _ hbW1 c6 c7 c8 c9 c10 c11)).mono ?_; rintro e w3 ⟨rfl, hs3⟩; have hs := hs1.out.trans (hs3.mono hs1.out.size); have g1 := keep_below hs e1; have s0 : w3.cell? ⟨w.heap.size + 1, 0, none⟩ = some (.bool false) := (Lib.cell_of_heap g1 0).trans rfl; have sf := Lib.frozen_of_heap g1 0; have hK3 := keep_below hs hK; replace hs := Lib.hid hs; clear hs3 hs1 g1 p0 p1 p2 p3 p4 p5 pf c6 c7 c8 c9 c10 c11)
      | fail)
    have hK' := (KeepsOthers.setCell w3 ⟨w.heap.size + 1, 0, none⟩ (.bool true)).same D _ hK3 rfl
    refine ⟨by simp, .inl ⟨_, _, rfl, run_takeDeferred hK', ?_⟩⟩
    have hc5 := cell_kept (World.cell?_setCell_same' w3 ⟨w.heap.size + 1, 0, none⟩ (.bool true) (by rw [s0]; rfl)) (grownBy_putObj' _ D (.deferred none)) (fun r e => by cases e; exact ⟨_, hK', rfl⟩)
    refine ⟨.bool true, ?_, rfl, ((hbw.trans (hs.out.mono hbw.size)).setCell (p := ⟨w.heap.size + 1, 0, none⟩) (Nat.le_succ _) _).trans (belowK_b (w := w) (Nat.le_refl _) _ D _ _ (by omega) hK' rfl rfl)⟩
    simp [results, Tryz.f96, go_sem, hc5]
  case stop =>
    rintro D c pre W _ _ h _
    exact h.elim

end Go.Proofs.YtfiainenbpldgaaGreatDoor
