/-
  append of one element onto a row that may begin behind the head of its block.
-/
import Derived.Test.YtfiainenbpldgaaGreatDoorAeKit2
import Derived.Deep.AppendLies
import Derived.Laws.CopyRow
namespace Go.Proofs.YtfiainenbpldgaaGreatDoor
open Go.RowKit
set_option maxRecDepth 100000
set_option linter.unusedVariables false
set_option linter.unusedSimpArgs false

/-- a row of n elements, with room for cap -/
structure RowS (w : World) (g o n cap size : Nat) : Prop where
  ex : ∃ cur e, w.heap[g]? = some (.cells cur e (0, 0)) ∧ o + cap * size ≤ cur.size ∧ n ≤ cap

/-- behind the append -/
structure NewR (w w' : World) (g g' o' n size : Nat) (news : List Value) : Prop where
  own : ∃ cur e, w'.heap[g']? = some (.cells cur e (0, 0)) ∧ o' + (n + 1) * size ≤ cur.size ∧ ∀ j u, news[j]? = some u → cur[o' + n * size + j]? = some u
  grow : w.grownBy w' (some g)
  at' : g' = g ∨ g' = w.heap.size

theorem new_below2 (w : World) (ob : Obj) : Below w.heap.size w (w.alloc ob) := (Below.refl _ _).alloc (Nat.le_refl _) ob
theorem below_grownBy2 {w w' : World} {row : Option Nat} (h : Below w.heap.size w w') : w.grownBy w' row := ⟨h.os, h.tape, h.output, h.size, fun k hk _ => h.block k hk⟩

section
variable {P : Program} {w : World}

theorem src_slice {size : Nat} {elem tx e' : TypeId} (hu : P.underlying tx = some (.slice e')) (ad : Addr) (c : Nat) (news : List Value) (hl : news.length = size) (hnews : ∀ j u, news[j]? = some u → w.cell? (ad.add j) = some u) : AE.Src2 P size elem tx (.slice (some ad) 1 c) 1 news w := by
  refine .inl ⟨.inl ⟨e', hu⟩, fun w' hw => ⟨by simp [Builtin.lenOf], run_firstCells_some (P := P) w' size 1 ad 1 c news (by omega) (fun j u hj => ?_)⟩⟩
  rw [AE.cell_heap hw]
  exact hnews j u hj

theorem run_append_sh (t ty elem : TypeId) (i : TypeInfo) (z : Value) (ht : P.underlying t = some (.slice elem)) (hi : P.info? elem = some i) (hz : i.zero = some z) (size : Nat) (hsize : i.size = size) (hzs : z.cells.size = size) (g o n cap : Nat) (h : RowS w g o n cap size)
    (ad : Addr) (c : Nat) (news : List Value) (hl : news.length = size) (hnews : ∀ j u, news[j]? = some u → w.cell? (ad.add j) = some u) (h1 : ∀ u ∈ news, u.oneCell' = true) (h63 : n + 1 ≤ 4611686018427387904) (hfit : (n + 1) * i.bytes ≤ 140737488355328) :
    ∃ g' o' cap' w', (Builtin.append_ #[t, t] ty #[.slice (some ⟨g, o, none⟩) n cap, .slice (some ad) 1 c]).run P w = .ok (.slice (some ⟨g', o', none⟩) (n + 1) cap') w' ∧ NewR w w' g g' o' n size news := by
  obtain ⟨cur, e, hg, hsz, hnc⟩ := h.ex
  subst hsize
  have hs := src_slice (P := P) (w := w) (size := i.size) (elem := elem) ht ad c news hl hnews
  have hm : n * i.size ≤ cap * i.size := Nat.mul_le_mul_right _ hnc
  have hn1 : (n + 1) * i.size = n * i.size + i.size := by rw [Nat.succ_mul]
  by_cases hroom : n + 1 ≤ cap
  · have hm1 : (n + 1) * i.size ≤ cap * i.size := Nat.mul_le_mul_right _ hroom
    have hadd : (⟨g, o, none⟩ : Addr).add (n * i.size) = ⟨g, o + n * i.size, none⟩ := by unfold Addr.add; split <;> simp_all
    have hst := run_storeCells_at P g (o + n * i.size) e news 0 cur w hg (by omega) h1
    refine ⟨g, o, cap, w.setRow g (cur.toList.take (o + n * i.size + 0) ++ news ++ cur.toList.drop (o + n * i.size + 0 + news.length)).toArray, ?_, ⟨⟨_, _, setRow_heap w g cur _ e (0, 0) hg, ?_, fun j u hj => ?_⟩, ?_, .inl rfl⟩⟩
    · rw [AE.run_append_room2 ht hi hs hroom]
      simp only [hadd, hst, Result.andThen]
    · have hc : cur.toList.length = cur.size := by simp
      simp only [List.size_toArray, List.length_append, List.length_take, List.length_drop, hc]
      omega
    · have hjl : j < news.length := (List.getElem?_eq_some_iff.1 hj).1
      have hc : cur.toList.length = cur.size := by simp
      simp only [List.getElem?_toArray]
      rw [List.getElem?_append_left (by rw [List.length_append, List.length_take, hc]; omega), List.getElem?_append_right (by rw [List.length_take, hc]; omega), List.length_take, hc]
      have : o + n * i.size + j - min (o + n * i.size + 0) cur.size = j := by omega
      rw [this]
      exact hj
    · exact ⟨rfl, rfl, rfl, by simp [World.setRow], fun k hk hne => by
        unfold World.setRow
        simp only [Array.getElem?_modify]
        rw [if_neg (by intro e; exact hne (by rw [e]))]⟩
  · have hc : cur.toList.length = cur.size := by simp
    have holdl : ((cur.toList.drop o).take (n * i.size)).length = n * i.size := by rw [List.length_take, List.length_drop, hc]; omega
    have hold : (Builtin.firstCells i.size n (.slice (some ⟨g, o, none⟩) n cap)).run P w.drew = .ok ((cur.toList.drop o).take (n * i.size)).toArray w.drew := by
      refine run_firstCells_some (P := P) w.drew i.size n ⟨g, o, none⟩ n cap _ holdl (fun j v hj => ?_)
      have hadd : (⟨g, o, none⟩ : Addr).add j = ⟨g, o + j, none⟩ := by unfold Addr.add; split <;> simp_all
      rw [hadd, cell_of_row w.drew g (o + j) cur e (0, 0) hg]
      rw [List.getElem?_take] at hj
      split at hj
      · rw [List.getElem?_drop] at hj
        simpa using hj
      · cases hj
    have hcap := AE.grownCap_ge w (n + 1) cap elem
    refine ⟨w.heap.size, 0, grownCap w (n + 1) cap elem, _, AE.run_append_grow2 ht hi hz hs hold (by omega) h63 (growslice_fits (by omega) hfit), ⟨⟨_, _, heap_alloc_new w.drew _, ?_, fun j u hj => ?_⟩, below_grownBy2 ((Below.refl w.heap.size w).drew.alloc (by show w.heap.size ≤ w.heap.size; exact Nat.le_refl _) _), .inr rfl⟩⟩
    · simp only [Array.size_append, List.size_toArray, List.length_append, holdl, hl]
      omega
    · have hjl : j < news.length := (List.getElem?_eq_some_iff.1 hj).1
      rw [Array.getElem?_append_left (by simp only [List.size_toArray, List.length_append, holdl]; omega)]
      simp only [List.getElem?_toArray]
      rw [List.getElem?_append_right (by rw [holdl]; omega), holdl]
      have : 0 + n * i.size + j - n * i.size = j := by omega
      rw [this]
      exact hj

theorem step_append_sh {ops : Array Oper} {o : Oper} {a : Act} {K : Act → World → Prop} {Q : Exit → Act → World → Prop} {E : Prop} (hgd : o.guard = none) (s x : Operand) (t : TypeId)
    (ho : o.op = .call { callee := .builtin .append, args := #[s, x], argTypes := #[t, t] }) (elem : TypeId) (i : TypeInfo) (z : Value) (ht : P.underlying t = some (.slice elem)) (hi : P.info? elem = some i) (hz : i.zero = some z) (size : Nat) (hsize : i.size = size) (hzs : z.cells.size = size)
    (g of n cap : Nat) (hs : a.eval s = .slice (some ⟨g, of, none⟩) n cap) (h : RowS w g of n cap size)
    (ad : Addr) (c : Nat) (news : List Value) (hx : a.eval x = .slice (some ad) 1 c) (hl : news.length = size) (hnews : ∀ j u, news[j]? = some u → w.cell? (ad.add j) = some u) (h1 : ∀ u ∈ news, u.oneCell' = true) (h63 : n + 1 ≤ 4611686018427387904) (hfit : (n + 1) * i.bytes ≤ 140737488355328)
    (hk : ∀ g' o' cap' w', NewR w w' g g' o' n size news → K (a.put o.dst (.slice (some ⟨g', o', none⟩) (n + 1) cap')) w') :
    if Region.wanted o (yielded ops a.tmps) = true then Oper.wp P o a w K Q else E := by
  have hw : Region.wanted o (yielded ops a.tmps) = true := by simp [Region.wanted, hgd]
  rw [if_pos hw]
  obtain ⟨g', o', cap', w', hr, hn⟩ := run_append_sh (P := P) (w := w) t o.type elem i z ht hi hz size hsize hzs g of n cap h ad c news hl hnews h1 h63 hfit
  unfold Oper.wp execOp
  simp only [ho, resolve, invoke, builtin, Sem.run_bind, Sem.run_pure, Result.andThen_ok, List.map_toArray, List.map_cons, List.map_nil, hs, hx, hr]
  exact hk g' o' cap' w' hn

end
end Go.Proofs.YtfiainenbpldgaaGreatDoor
