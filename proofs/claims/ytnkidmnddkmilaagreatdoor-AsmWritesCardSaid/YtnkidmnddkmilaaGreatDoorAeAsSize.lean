/-
  What the form's own reach gives: an image's lengths.
-/
import Derived.SizedLaws
import Derived.Test.YtnkidmnddkmilaaGreatDoorAeAsOpen
namespace Go.Proofs.YtnkidmnddkmilaaGreatDoor
open Go.RowKit
set_option maxRecDepth 100000

section
variable {H : Type} {W : World}

/-- what is read takes no more than the form's reach -/
def Fit (t : TypeId) (d : DataW H) : Prop := ∀ n ∈ d.weights Tryz.prog t, n ≤ reachBytes

theorem reach_is : reachBytes = 140737488351232 := rfl

theorem weights_all {e : TypeId} {x : DataW H} : ∀ {l : List (DataW H)}, x ∈ l → ∀ n ∈ x.weights Tryz.prog e, n ∈ DataW.weightsAll Tryz.prog e l
  | y :: r, h, n, hn => by
    rw [DataW.weightsAll, List.mem_append]
    rcases List.mem_cons.1 h with rfl | h
    · exact .inl hn
    · exact .inr (weights_all h n hn)

theorem Fit.str {t : TypeId} {s : ByteArray} (h : Fit t (.lit (.string s.data.toList) : DataW H)) : s.size ≤ 140737488351232 := by
  have := h s.data.toList.length (by simp [DataW.weights])
  rw [reach_is, Array.length_toList] at this
  exact this

theorem Fit.part {t : TypeId} {fs : Array Field} {l : List (DataW H)} (hu : Tryz.prog.underlying t = some (.struct fs)) (h : Fit t (.agg l)) {j : Nat} {u : TypeId} {d : DataW H} (ht : (fs.toList.map (·.type))[j]? = some u) (hd : l[j]? = some d) : Fit u d := by
  intro n hn
  refine h n ?_
  rw [DataW.weights, hu]
  exact DataW.weights_mem_each ht hd n hn

theorem Fit.slice {t e : TypeId} {d : DataW H} {D : Nat → DataW H} {n : Nat} (hu : Tryz.prog.underlying t = some (.slice e)) (hb : 1 ≤ Tryz.prog.bytesOf e) (hs : SliceOf d D n) (h : Fit t d) : n ≤ 140737488351232 ∧ ∀ i, i < n → Fit e (D i) := by
  rcases hs with ⟨rfl, rfl⟩ | ⟨r, rfl⟩
  · exact ⟨Nat.zero_le _, fun i hi => absurd hi (Nat.not_lt_zero _)⟩
  · have h1 := h ((((List.range n).map D).length + r.length) * Tryz.prog.bytesOf e) (by rw [DataW.weights, hu]; simp)
    rw [reach_is, List.length_map, List.length_range] at h1
    refine ⟨?_, fun i hi k hk => h k ?_⟩
    · have h2 : n * 1 ≤ (n + r.length) * Tryz.prog.bytesOf e := Nat.mul_le_mul (Nat.le_add_right _ _) hb
      omega
    · rw [DataW.weights, hu]
      simp only [List.mem_cons, List.mem_append]
      exact .inr (.inl (weights_all (List.mem_map.2 ⟨i, List.mem_range.2 hi, rfl⟩) k hk))

theorem RowsOf.fit {X : Type} {C : X → List Value} {n : Nat} {R : X → DataW H → Prop} {v : Value} {d : DataW H} {l : List X} {t e : TypeId} (h : RowsOf W C n R v d l) (hu : Tryz.prog.underlying t = some (.slice e)) (hb : 1 ≤ Tryz.prog.bytesOf e) (hf : Fit t d) :
    l.length ≤ 140737488351232 ∧ ∀ x ∈ l, ∃ y, R x y ∧ Fit e y := by
  obtain ⟨_, D, hs, hR⟩ := h
  obtain ⟨h1, h2⟩ := hf.slice hu hb hs
  refine ⟨h1, fun x hx => ?_⟩
  obtain ⟨i, hi, rfl⟩ := List.getElem_of_mem hx
  exact ⟨_, hR i hi, h2 i hi⟩

theorem bytes36 : 1 ≤ Tryz.prog.bytesOf 36 := Nat.le_of_ble_eq_true (by kernel_rfl)
theorem bytes42 : 1 ≤ Tryz.prog.bytesOf 42 := Nat.le_of_ble_eq_true (by kernel_rfl)
theorem bytes39 : 1 ≤ Tryz.prog.bytesOf 39 := Nat.le_of_ble_eq_true (by kernel_rfl)
theorem bytes40 : 1 ≤ Tryz.prog.bytesOf 40 := Nat.le_of_ble_eq_true (by kernel_rfl)
theorem bytes61 : 1 ≤ Tryz.prog.bytesOf 61 := Nat.le_of_ble_eq_true (by kernel_rfl)

theorem RCode.small {x : CodeV} {d : DataW H} (h : RCode W x d) (hf : Fit 36 d) : Small x.c := by
  obtain ⟨_, _, _, a1, a2, a3, dI, dP, dK, dG, rfl, r4, r5, r6, r7⟩ := h
  have f0 := hf.part Tryz.underlying36 (j := 0) (u := 9) rfl rfl
  have f4 := hf.part Tryz.underlying36 (j := 4) (u := 31) rfl rfl
  have f5 := hf.part Tryz.underlying36 (j := 5) (u := 32) rfl rfl
  have f6 := hf.part Tryz.underlying36 (j := 6) (u := 33) rfl rfl
  have f7 := hf.part Tryz.underlying36 (j := 7) (u := 34) rfl rfl
  refine ⟨f0.str, (r4.fit Tryz.underlying31 bytes42 f4).1, (r5.fit Tryz.underlying32 bytes39 f5).1, (r6.fit Tryz.underlying33 bytes40 f6).1, (r7.fit Tryz.underlying34 bytes61 f7).1, fun y hy => ?_, fun y hy => ?_⟩
  · obtain ⟨e, ⟨_, _, a, b, rfl⟩, he⟩ := (r5.fit Tryz.underlying32 bytes39 f5).2 y hy
    exact (he.part Tryz.underlying39 (j := 2) (u := 9) rfl rfl).str
  · obtain ⟨e, ⟨_, _, a, b, rfl⟩, he⟩ := (r6.fit Tryz.underlying33 bytes40 f6).2 y hy
    exact (he.part Tryz.underlying40 (j := 2) (u := 9) rfl rfl).str

theorem img0_of {v : Value} {d : DataW H} {l : List CodeV} (h : RowsOf W codeC 8 (RCode W) v d l) (hf : Fit 22 d) : Img0 W W.heap.size v l := by
  obtain ⟨h1, h2⟩ := h.fit Tryz.underlying22 bytes36 hf
  refine ⟨h.1, fun x hx => ?_, fun x hx => ?_, fun x hx => ?_, h1⟩
  · obtain ⟨e, he, _⟩ := h2 x hx
    exact he.code.1
  · obtain ⟨e, he, _⟩ := h2 x hx
    exact he.code.2
  · obtain ⟨e, he, hb⟩ := h2 x hx
    exact he.small hb

/-- the reach of the arguments, as the frame hands it over -/
theorem fit_of {d : DataW H} {n : Int} (h : (DataW.weightsEach Tryz.prog [24, 3] [.agg [d], .lit (.int .i64 n)]).all (· ≤ reachBytes) = true) : Fit 22 d := by
  have h24 : Fit 24 (.agg [d] : DataW H) := fun k hk => by
    have hm := DataW.weights_mem_each (P := Tryz.prog) (ts := [24, 3]) (ds := [.agg [d], .lit (.int .i64 n)]) (j := 0) (t := 24) (d := .agg [d]) rfl rfl k hk
    exact of_decide_eq_true (List.all_eq_true.1 h k hm)
  exact h24.part Tryz.underlying24 (j := 0) (u := 22) rfl rfl

end
end Go.Proofs.YtnkidmnddkmilaaGreatDoor
