/-
  Which images are few.
-/
import Derived.Test.YtnkidmnddkmilaaGreatDoorAeAsRText
namespace Go.Proofs.YtnkidmnddkmilaaGreatDoor
open Go.RowKit
set_option maxRecDepth 100000

/-- a code that a machine can hold -/
structure Small (c : CodeL) : Prop where
  name : c.name.size ≤ 140737488351232
  ins : c.ins.length ≤ 140737488351232
  pool : c.pool.length ≤ 140737488351232
  keys : c.keys.length ≤ 140737488351232
  guards : c.guards.length ≤ 140737488351232
  vs : ∀ v ∈ c.pool, v.s.size ≤ 140737488351232
  ks : ∀ v ∈ c.keys, v.s.size ≤ 140737488351232

/-- an image as it comes -/
structure Img0 (w : World) (B : Nat) (v : Value) (xs : List CodeV) : Prop where
  sl : SlAt w B 8 v (xs.map codeC)
  codes : ∀ x ∈ xs, CodeAt w B x.c x.vi x.vp x.vk x.vg
  nums : ∀ x ∈ xs, Nums x.c
  small : ∀ x ∈ xs, Small x.c
  len : xs.length ≤ 140737488351232

theorem Img0.below {w w' : World} {B : Nat} {v : Value} {xs : List CodeV} (h : Img0 w B v xs) (hb : Below B w w') : Img0 w' B v xs :=
  ⟨h.sl.below hb, fun x hx => (h.codes x hx).below hb, h.nums, h.small, h.len⟩

theorem Img0.few {w : World} {B : Nat} {v : Value} {xs : List CodeV} (h : Img0 w B v xs) (hf : ∀ x ∈ xs, Few x.c) : Img w B v xs := ⟨h.sl, h.codes, hf, h.nums⟩

/-- an element, as the walk reads it -/
theorem Img0.elem {w : World} {B : Nat} {a : Option Addr} {n cap : Nat} {xs : List CodeV} (h : Img0 w B (.slice a n cap) xs) (k : Nat) (hk : k < xs.length) :
    ∃ bk o, a = some ⟨bk, o, none⟩ ∧ bk < B ∧ (∃ ai ci ap cp ak ck ag cg, xs[k].vi = .slice ai xs[k].c.ins.length ci ∧ xs[k].vp = .slice ap xs[k].c.pool.length cp ∧ xs[k].vk = .slice ak xs[k].c.keys.length ck ∧ xs[k].vg = .slice ag xs[k].c.guards.length cg) ∧ ∀ W, Below B w W →
      W.cell? ⟨bk, o + k * 8, none⟩ = some (.string xs[k].c.name) ∧ W.cell? ⟨bk, o + k * 8 + 1, none⟩ = some (.int .i64 xs[k].c.kind) ∧ W.cell? ⟨bk, o + k * 8 + 2, none⟩ = some (.int .i64 xs[k].c.len) ∧ W.cell? ⟨bk, o + k * 8 + 3, none⟩ = some (.int .i64 xs[k].c.regs) ∧
      W.cell? ⟨bk, o + k * 8 + 4, none⟩ = some xs[k].vi ∧ W.cell? ⟨bk, o + k * 8 + 5, none⟩ = some xs[k].vp ∧ W.cell? ⟨bk, o + k * 8 + 6, none⟩ = some xs[k].vk ∧ W.cell? ⟨bk, o + k * 8 + 7, none⟩ = some xs[k].vg := by
  have hx := List.getElem?_eq_getElem hk
  obtain ⟨_, bk, o, ea, hbk, hcc⟩ := h.sl.at (k := k) (x := codeC xs[k]) (by rw [List.getElem?_map, hx]; rfl)
  have hco := h.codes _ (List.getElem_mem hk)
  refine ⟨bk, o, ea, hbk, ?_, fun W hW => ?_⟩
  · obtain ⟨ai, ci, e1⟩ := hco.ins.slice
    obtain ⟨ap, cp, e2⟩ := hco.pool.slice
    obtain ⟨ak, ck, e3⟩ := hco.keys.slice
    obtain ⟨ag, cg, e4⟩ := hco.guards.slice
    rw [List.length_map] at e1 e2 e3 e4
    exact ⟨ai, ci, ap, cp, ak, ck, ag, cg, e1, e2, e3, e4⟩
  · have q : ∀ j y, (codeC xs[k])[j]? = some y → W.cell? ⟨bk, o + k * 8 + j, none⟩ = some y := fun j y hj => by
      rw [hW.cell (p := ⟨bk, o + k * 8 + j, none⟩) hbk]; exact hcc j y hj
    exact ⟨q 0 _ rfl, q 1 _ rfl, q 2 _ rfl, q 3 _ rfl, q 4 _ rfl, q 5 _ rfl, q 6 _ rfl, q 7 _ rfl⟩

/-- what the count says of the codes before the k-th -/
def Cnt (xs : List CodeV) (k n : Nat) : Prop := xs.length ≤ n ∧ (n < 1500 → ∀ j (h : j < xs.length), j < k → Few xs[j].c)
/-- .. within the k-th, its first sum being taken -/
def Cnt1 (c : CodeL) (n0 n : Nat) : Prop := n0 + (c.name.size + c.ins.length + c.pool.length + c.keys.length + c.guards.length) ≤ n
def Cnt2 (c : CodeL) (n0 m n : Nat) : Prop := Cnt1 c n0 n ∧ (n < 1500 → ∀ j (h : j < c.pool.length), j < m → c.pool[j].s.size ≤ 1499)
def Cnt3 (c : CodeL) (n0 m n : Nat) : Prop := Cnt2 c n0 c.pool.length n ∧ (n < 1500 → ∀ j (h : j < c.keys.length), j < m → c.keys[j].s.size ≤ 1499)

theorem Cnt3.few {c : CodeL} {n0 n : Nat} (h : Cnt3 c n0 c.keys.length n) (hn : n < 1500) : Few c := by
  obtain ⟨⟨h1, h2⟩, h3⟩ := h
  unfold Cnt1 at h1
  refine ⟨by omega, by omega, by omega, by omega, by omega, fun v hv => ?_, fun v hv => ?_⟩
  · obtain ⟨j, hj, rfl⟩ := List.getElem_of_mem hv
    exact h2 hn j hj hj
  · obtain ⟨j, hj, rfl⟩ := List.getElem_of_mem hv
    exact h3 hn j hj hj

theorem Cnt2.step {c : CodeL} {n0 m n : Nat} (h : Cnt2 c n0 m n) (hm : m < c.pool.length) : Cnt2 c n0 (m + 1) (n + c.pool[m].s.size) := by
  obtain ⟨h1, h2⟩ := h
  unfold Cnt1 at h1
  refine ⟨by unfold Cnt1; omega, fun hn j hj hjm => ?_⟩
  by_cases e : j = m
  · subst e; omega
  · exact h2 (by omega) j hj (by omega)
theorem Cnt3.step {c : CodeL} {n0 m n : Nat} (h : Cnt3 c n0 m n) (hm : m < c.keys.length) : Cnt3 c n0 (m + 1) (n + c.keys[m].s.size) := by
  obtain ⟨⟨h1, h2⟩, h3⟩ := h
  unfold Cnt1 at h1
  refine ⟨⟨by unfold Cnt1; omega, fun hn => h2 (by omega)⟩, fun hn j hj hjm => ?_⟩
  by_cases e : j = m
  · subst e; omega
  · exact h3 (by omega) j hj (by omega)
theorem Cnt2.exit {c : CodeL} {n0 m n : Nat} (h : Cnt2 c n0 m n) (hx : ¬ m < c.pool.length ∨ ¬ n < 1500) : Cnt3 c n0 0 n := by
  obtain ⟨h1, h2⟩ := h
  refine ⟨⟨h1, fun hn j hj _ => h2 hn j hj (by omega)⟩, fun _ j _ hj => absurd hj (Nat.not_lt_zero _)⟩
theorem Cnt3.exit {c : CodeL} {n0 m n : Nat} (h : Cnt3 c n0 m n) (hx : ¬ m < c.keys.length ∨ ¬ n < 1500) : n0 ≤ n ∧ (n < 1500 → Few c) := by
  have h' : Cnt3 c n0 c.keys.length n := ⟨h.1, fun hn j hj _ => h.2 hn j hj (by omega)⟩
  refine ⟨?_, h'.few⟩
  have h1 := h.1.1
  unfold Cnt1 at h1
  omega
theorem Cnt.step {xs : List CodeV} {k n n' : Nat} (h : Cnt xs k n) (hk : k < xs.length) (hn : n ≤ n') (hf : n' < 1500 → Few xs[k].c) : Cnt xs (k + 1) n' := by
  obtain ⟨h1, h2⟩ := h
  refine ⟨by omega, fun hl j hj hjk => ?_⟩
  by_cases e : j = k
  · subst e; exact hf hl
  · exact h2 (by omega) j hj (by omega)

end Go.Proofs.YtnkidmnddkmilaaGreatDoor
