/-
  Whether all elements of a slice are right: code.every at its four instances.
-/
import Derived.Test.YtnkidmnddkmilaaGreatDoorAeAsInsB
namespace Go.Proofs.YtnkidmnddkmilaaGreatDoor
open Go.RowKit
set_option maxRecDepth 100000

/-- where the first element stands that is not right; -1 where there is none -/
def idxI {X : Type} (r : X → Bool) (xs : List X) : Int := if xs.all r then -1 else (xs.findIdx (fun x => !r x) : Nat)

theorem idxI_at {X : Type} {r : X → Bool} {xs : List X} {k : Nat} (hk : k < xs.length) (hb : ∀ j (h : j < xs.length), j < k → r xs[j] = true) (hr : r xs[k] = false) : idxI r xs = k := by
  have ha : xs.all r = false := by
    rw [Bool.eq_false_iff]
    intro h
    rw [List.all_eq_true] at h
    rw [h _ (List.getElem_mem hk)] at hr
    cases hr
  have hi : xs.findIdx (fun x => !r x) = k := by
    rw [List.findIdx_eq hk]
    exact ⟨by simp [hr], fun j hj => by simp [hb j (by omega) hj]⟩
  unfold idxI
  rw [ha, hi]
  rfl

theorem idxI_none {X : Type} {r : X → Bool} {xs : List X} (hb : ∀ j (h : j < xs.length), r xs[j] = true) : idxI r xs = -1 := by
  have ha : xs.all r = true := by
    rw [List.all_eq_true]
    intro x hx
    obtain ⟨j, hj, rfl⟩ := List.getElem_of_mem hx
    exact hb j hj
  unfold idxI
  rw [ha]
  rfl

theorem idxI_ge {X : Type} (r : X → Bool) (xs : List X) : (xs.all r = true ∧ idxI r xs = -1) ∨ (xs.all r = false ∧ 0 ≤ idxI r xs) := by
  unfold idxI
  cases xs.all r
  · exact Or.inr ⟨rfl, Int.natCast_nonneg _⟩
  · exact Or.inl ⟨rfl, rfl⟩

set_option maxHeartbeats 4000000 in
theorem idxV_ret (xs : List ValL) (r : ValL → Bool) (B fb : Nat) (v : Value) (hl : xs.length ≤ 1499) (w : World) (hB : B ≤ w.heap.size) (hv : SlAt w B 3 v (xs.map valC)) (hcl : ∀ x ∈ xs, ∀ w', Below w.heap.size w w' → Calls Tryz.prog 63 #[.agg #[.int .i64 x.k, .int .i64 x.n, .string x.s], .pointer (some ⟨fb, 0, none⟩)] w' fun e w'' => e = .returned (.bool (!(r x))) ∧ Below w'.heap.size w' w'') :
    Calls Tryz.prog 91 #[v, .func (.func 63) #[] #[.pointer (some ⟨fb, 0, none⟩)]] w fun e w' => e = .returned (.int .i64 (idxI r xs)) ∧ Below w.heap.size w w' := by
  obtain ⟨a, cap, rfl⟩ := hv.slice
  have HV := Lib.hid hv
  have HC := Lib.hid hcl
  clear hv hcl
  rw [List.length_map]
  go_enter Tryz.func91, Tryz.ntmps91
  go_wp2
  go_loopw [4, 5, 8] (fun z j i W => ∃ k : Nat, k ≤ xs.length ∧ i = .int .i64 k ∧ Hid (∀ j (h : j < xs.length), j < k → r xs[j] = true) ∧ Below w.heap.size w W) (fun _ _ i _ => xs.length - (intOf i).toNat)
  case atStart => exact ⟨0, Nat.zero_le _, rfl, Lib.hid (fun j h h' => absurd h' (Nat.not_lt_zero _)), Below.refl _ _⟩
  case round =>
    obtain ⟨k, hk, rfl, hall, hbl⟩ := hrel
    have hsz := hbl.size
    by_cases hlt : k < xs.length
    · have hx := List.getElem?_eq_getElem hlt
      obtain ⟨_, bk, o, ea, hbk, hcc⟩ := (HV.out.below (hbl.mono hB)).at (k := k) (x := valC xs[k]) (by rw [List.getElem?_map, hx]; rfl)
      have hc := HC.out xs[k] (List.getElem_mem hlt)
      have HN : Hid (r xs[k] = true → ∀ j (h : j < xs.length), j < k + 1 → r xs[j] = true) := Lib.hid (fun hr j h h' => by
        by_cases e : j = k
        · subst e; exact hr
        · exact hall.out j h (by omega))
      have HF : Hid (r xs[k] = false → idxI r xs = k) := Lib.hid (fun hr => idxI_at hlt hall.out hr)
      have h0 : wr.cell? ⟨bk, o + k * 3, none⟩ = some (.int .i64 xs[k].k) := hcc 0 _ rfl
      have h1 : wr.cell? ⟨bk, o + k * 3 + 1, none⟩ = some (.int .i64 xs[k].n) := hcc 1 _ rfl
      have h2 : wr.cell? ⟨bk, o + k * 3 + 2, none⟩ = some (.string xs[k].s) := hcc 2 _ rfl
      clear hcc hx
      subst ea
      generalize xs[k] = x at *
      have hc' : ∀ w', Below w.heap.size w w' → ∀ b, r x = b → Calls Tryz.prog 63 #[.agg #[.int .i64 x.k, .int .i64 x.n, .string x.s], .pointer (some ⟨fb, 0, none⟩)] w' fun e w'' => e = .returned (.bool (!b)) ∧ Below w'.heap.size w' w'' := fun w' hw b hb => by rw [← hb]; exact hc w' hw
      clear hc
      cases hr : r x with
      | true =>
        have HN2 := Lib.hid (HN.out hr)
        have hc2 := hc' wr hbl true hr
        clear HN HF hc' hr
        go_wp2_with (go_at_call 63; refine hc2.mono ?_; rintro e w1 ⟨rfl, hb1⟩)
        go_roundw
        case rel => exact ⟨k + 1, by omega, by go_num, HN2, hbl.trans (hb1.mono hsz)⟩
        case measure => simp [intOf]; omega
      | false =>
        have HF2 := Lib.hid (HF.out hr)
        have hc2 := hc' wr hbl false hr
        clear HN HF hc' hr
        go_wp2_with (go_at_call 63; refine hc2.mono ?_; rintro e w1 ⟨rfl, hb1⟩)
        go_ret
        exact ⟨ret_int HF2.out.symm, hbl.trans (hb1.mono hsz)⟩
    · have HE := Lib.hid (idxI_none (r := r) (xs := xs) (fun j h => hall.out j h (by omega)))
      go_wp2
      go_ret
      exact ⟨ret_int HE.out.symm, hbl⟩

theorem containsV_ret (xs : List ValL) (r : ValL → Bool) (B fb : Nat) (v : Value) (hl : xs.length ≤ 1499) (w : World) (hB : B ≤ w.heap.size) (hv : SlAt w B 3 v (xs.map valC)) (hcl : ∀ x ∈ xs, ∀ w', Below w.heap.size w w' → Calls Tryz.prog 63 #[.agg #[.int .i64 x.k, .int .i64 x.n, .string x.s], .pointer (some ⟨fb, 0, none⟩)] w' fun e w'' => e = .returned (.bool (!(r x))) ∧ Below w'.heap.size w' w'') :
    Calls Tryz.prog 62 #[v, .func (.func 63) #[] #[.pointer (some ⟨fb, 0, none⟩)]] w fun e w' => e = .returned (.bool (!(xs.all r))) ∧ Below w.heap.size w w' := by
  have hi := idxV_ret xs r B fb v hl w hB hv hcl
  rcases idxI_ge r xs with ⟨h1, h2⟩ | ⟨h1, h2⟩
  · rw [h1]
    rw [h2] at hi
    clear h1 h2 hv hcl
    go_enter Tryz.func62, Tryz.ntmps62
    go_wp2_with (go_at_call 91; refine hi.mono ?_; rintro e w1 ⟨rfl, hb1⟩)
    go_ret
    exact ⟨rfl, hb1⟩
  · rw [h1]
    clear h1 hv hcl
    generalize idxI r xs = m at *
    go_enter Tryz.func62, Tryz.ntmps62
    go_wp2_with (go_at_call 91; refine hi.mono ?_; rintro e w1 ⟨rfl, hb1⟩)
    go_ret
    refine ⟨ret_bool ?_, hb1⟩
    first | rfl | simpa using h2

set_option maxHeartbeats 4000000 in
theorem everyV_ret (xs : List ValL) (r : ValL → Bool) (B : Nat) (v : Value) (fv : Value) (hl : xs.length ≤ 1499) (w : World) (hB : B ≤ w.heap.size) (hv : SlAt w B 3 v (xs.map valC))
    (hcl : ∀ x ∈ xs, ∀ w', Below (w.heap.size + 1) (w.alloc (.cells #[fv] 74)) w' → Calls Tryz.prog 63 #[.agg #[.int .i64 x.k, .int .i64 x.n, .string x.s], .pointer (some ⟨w.heap.size, 0, none⟩)] w' fun e w'' => e = .returned (.bool (!(r x))) ∧ Below w'.heap.size w' w'') (hfv : fv.oneCell' = true) (hfc : fv.cells = #[fv]) :
    Calls Tryz.prog 30 #[v, fv] w fun e w' => e = .returned (.bool (xs.all r)) ∧ Below w.heap.size w w' := by
  have hb0 : Below w.heap.size w (w.alloc (.cells #[fv] 74)) := (Below.refl _ _).alloc (Nat.le_refl _) _
  have hs : (w.alloc (.cells #[fv] 74)).heap.size = w.heap.size + 1 := by simp
  have hc := containsV_ret xs r B w.heap.size v hl (w.alloc (.cells #[fv] 74)) (Nat.le_trans hB hb0.size) (hv.below (hb0.mono hB)) (fun x hx w' hw => hcl x hx w' (by rw [← hs]; exact hw))
  obtain ⟨a, cap, rfl⟩ := hv.slice
  rw [List.length_map] at *
  clear hcl hv
  generalize xs.all r = b at *
  go_enter Tryz.func30, Tryz.ntmps30
  go_wp2_with (go_at_call 62; refine hc.mono ?_; rintro e w1 ⟨rfl, hb1⟩)
  go_ret
  exact ⟨rfl, hb0.trans (hb1.mono hb0.size)⟩

set_option maxHeartbeats 4000000 in
theorem idxK_ret (xs : List KeyL) (r : KeyL → Bool) (B fb : Nat) (v : Value) (hl : xs.length ≤ 1499) (w : World) (hB : B ≤ w.heap.size) (hv : SlAt w B 3 v (xs.map keyC)) (hcl : ∀ x ∈ xs, ∀ w', Below w.heap.size w w' → Calls Tryz.prog 65 #[.agg #[.int .i64 x.k, .int .i64 x.n, .string x.s], .pointer (some ⟨fb, 0, none⟩)] w' fun e w'' => e = .returned (.bool (!(r x))) ∧ Below w'.heap.size w' w'') :
    Calls Tryz.prog 92 #[v, .func (.func 65) #[] #[.pointer (some ⟨fb, 0, none⟩)]] w fun e w' => e = .returned (.int .i64 (idxI r xs)) ∧ Below w.heap.size w w' := by
  obtain ⟨a, cap, rfl⟩ := hv.slice
  have HV := Lib.hid hv
  have HC := Lib.hid hcl
  clear hv hcl
  rw [List.length_map]
  go_enter Tryz.func92, Tryz.ntmps92
  go_wp2
  go_loopw [4, 5, 8] (fun z j i W => ∃ k : Nat, k ≤ xs.length ∧ i = .int .i64 k ∧ Hid (∀ j (h : j < xs.length), j < k → r xs[j] = true) ∧ Below w.heap.size w W) (fun _ _ i _ => xs.length - (intOf i).toNat)
  case atStart => exact ⟨0, Nat.zero_le _, rfl, Lib.hid (fun j h h' => absurd h' (Nat.not_lt_zero _)), Below.refl _ _⟩
  case round =>
    obtain ⟨k, hk, rfl, hall, hbl⟩ := hrel
    have hsz := hbl.size
    by_cases hlt : k < xs.length
    · have hx := List.getElem?_eq_getElem hlt
      obtain ⟨_, bk, o, ea, hbk, hcc⟩ := (HV.out.below (hbl.mono hB)).at (k := k) (x := keyC xs[k]) (by rw [List.getElem?_map, hx]; rfl)
      have hc := HC.out xs[k] (List.getElem_mem hlt)
      have HN : Hid (r xs[k] = true → ∀ j (h : j < xs.length), j < k + 1 → r xs[j] = true) := Lib.hid (fun hr j h h' => by
        by_cases e : j = k
        · subst e; exact hr
        · exact hall.out j h (by omega))
      have HF : Hid (r xs[k] = false → idxI r xs = k) := Lib.hid (fun hr => idxI_at hlt hall.out hr)
      have h0 : wr.cell? ⟨bk, o + k * 3, none⟩ = some (.int .i64 xs[k].k) := hcc 0 _ rfl
      have h1 : wr.cell? ⟨bk, o + k * 3 + 1, none⟩ = some (.int .i64 xs[k].n) := hcc 1 _ rfl
      have h2 : wr.cell? ⟨bk, o + k * 3 + 2, none⟩ = some (.string xs[k].s) := hcc 2 _ rfl
      clear hcc hx
      subst ea
      generalize xs[k] = x at *
      have hc' : ∀ w', Below w.heap.size w w' → ∀ b, r x = b → Calls Tryz.prog 65 #[.agg #[.int .i64 x.k, .int .i64 x.n, .string x.s], .pointer (some ⟨fb, 0, none⟩)] w' fun e w'' => e = .returned (.bool (!b)) ∧ Below w'.heap.size w' w'' := fun w' hw b hb => by rw [← hb]; exact hc w' hw
      clear hc
      cases hr : r x with
      | true =>
        have HN2 := Lib.hid (HN.out hr)
        have hc2 := hc' wr hbl true hr
        clear HN HF hc' hr
        go_wp2_with (go_at_call 65; refine hc2.mono ?_; rintro e w1 ⟨rfl, hb1⟩)
        go_roundw
        case rel => exact ⟨k + 1, by omega, by go_num, HN2, hbl.trans (hb1.mono hsz)⟩
        case measure => simp [intOf]; omega
      | false =>
        have HF2 := Lib.hid (HF.out hr)
        have hc2 := hc' wr hbl false hr
        clear HN HF hc' hr
        go_wp2_with (go_at_call 65; refine hc2.mono ?_; rintro e w1 ⟨rfl, hb1⟩)
        go_ret
        exact ⟨ret_int HF2.out.symm, hbl.trans (hb1.mono hsz)⟩
    · have HE := Lib.hid (idxI_none (r := r) (xs := xs) (fun j h => hall.out j h (by omega)))
      go_wp2
      go_ret
      exact ⟨ret_int HE.out.symm, hbl⟩

theorem containsK_ret (xs : List KeyL) (r : KeyL → Bool) (B fb : Nat) (v : Value) (hl : xs.length ≤ 1499) (w : World) (hB : B ≤ w.heap.size) (hv : SlAt w B 3 v (xs.map keyC)) (hcl : ∀ x ∈ xs, ∀ w', Below w.heap.size w w' → Calls Tryz.prog 65 #[.agg #[.int .i64 x.k, .int .i64 x.n, .string x.s], .pointer (some ⟨fb, 0, none⟩)] w' fun e w'' => e = .returned (.bool (!(r x))) ∧ Below w'.heap.size w' w'') :
    Calls Tryz.prog 64 #[v, .func (.func 65) #[] #[.pointer (some ⟨fb, 0, none⟩)]] w fun e w' => e = .returned (.bool (!(xs.all r))) ∧ Below w.heap.size w w' := by
  have hi := idxK_ret xs r B fb v hl w hB hv hcl
  rcases idxI_ge r xs with ⟨h1, h2⟩ | ⟨h1, h2⟩
  · rw [h1]
    rw [h2] at hi
    clear h1 h2 hv hcl
    go_enter Tryz.func64, Tryz.ntmps64
    go_wp2_with (go_at_call 92; refine hi.mono ?_; rintro e w1 ⟨rfl, hb1⟩)
    go_ret
    exact ⟨rfl, hb1⟩
  · rw [h1]
    clear h1 hv hcl
    generalize idxI r xs = m at *
    go_enter Tryz.func64, Tryz.ntmps64
    go_wp2_with (go_at_call 92; refine hi.mono ?_; rintro e w1 ⟨rfl, hb1⟩)
    go_ret
    refine ⟨ret_bool ?_, hb1⟩
    first | rfl | simpa using h2

set_option maxHeartbeats 4000000 in
theorem everyK_ret (xs : List KeyL) (r : KeyL → Bool) (B : Nat) (v : Value) (fv : Value) (hl : xs.length ≤ 1499) (w : World) (hB : B ≤ w.heap.size) (hv : SlAt w B 3 v (xs.map keyC))
    (hcl : ∀ x ∈ xs, ∀ w', Below (w.heap.size + 1) (w.alloc (.cells #[fv] 76)) w' → Calls Tryz.prog 65 #[.agg #[.int .i64 x.k, .int .i64 x.n, .string x.s], .pointer (some ⟨w.heap.size, 0, none⟩)] w' fun e w'' => e = .returned (.bool (!(r x))) ∧ Below w'.heap.size w' w'') (hfv : fv.oneCell' = true) (hfc : fv.cells = #[fv]) :
    Calls Tryz.prog 32 #[v, fv] w fun e w' => e = .returned (.bool (xs.all r)) ∧ Below w.heap.size w w' := by
  have hb0 : Below w.heap.size w (w.alloc (.cells #[fv] 76)) := (Below.refl _ _).alloc (Nat.le_refl _) _
  have hs : (w.alloc (.cells #[fv] 76)).heap.size = w.heap.size + 1 := by simp
  have hc := containsK_ret xs r B w.heap.size v hl (w.alloc (.cells #[fv] 76)) (Nat.le_trans hB hb0.size) (hv.below (hb0.mono hB)) (fun x hx w' hw => hcl x hx w' (by rw [← hs]; exact hw))
  obtain ⟨a, cap, rfl⟩ := hv.slice
  rw [List.length_map] at *
  clear hcl hv
  generalize xs.all r = b at *
  go_enter Tryz.func32, Tryz.ntmps32
  go_wp2_with (go_at_call 64; refine hc.mono ?_; rintro e w1 ⟨rfl, hb1⟩)
  go_ret
  exact ⟨rfl, hb0.trans (hb1.mono hb0.size)⟩

set_option maxHeartbeats 4000000 in
theorem idxI_ret (xs : List InsL) (r : InsL → Bool) (B fb : Nat) (v : Value) (hl : xs.length ≤ 1499) (w : World) (hB : B ≤ w.heap.size) (hv : SlAt w B 4 v (xs.map insC)) (hcl : ∀ x ∈ xs, ∀ w', Below w.heap.size w w' → Calls Tryz.prog 68 #[.agg #[.int .i64 x.op, .int .i64 x.a, .int .i64 x.b, .int .i64 x.c], .pointer (some ⟨fb, 0, none⟩)] w' fun e w'' => e = .returned (.bool (!(r x))) ∧ Below w'.heap.size w' w'') :
    Calls Tryz.prog 93 #[v, .func (.func 68) #[] #[.pointer (some ⟨fb, 0, none⟩)]] w fun e w' => e = .returned (.int .i64 (idxI r xs)) ∧ Below w.heap.size w w' := by
  obtain ⟨a, cap, rfl⟩ := hv.slice
  have HV := Lib.hid hv
  have HC := Lib.hid hcl
  clear hv hcl
  rw [List.length_map]
  go_enter Tryz.func93, Tryz.ntmps93
  go_wp2
  go_loopw [4, 5, 8] (fun z j i W => ∃ k : Nat, k ≤ xs.length ∧ i = .int .i64 k ∧ Hid (∀ j (h : j < xs.length), j < k → r xs[j] = true) ∧ Below w.heap.size w W) (fun _ _ i _ => xs.length - (intOf i).toNat)
  case atStart => exact ⟨0, Nat.zero_le _, rfl, Lib.hid (fun j h h' => absurd h' (Nat.not_lt_zero _)), Below.refl _ _⟩
  case round =>
    obtain ⟨k, hk, rfl, hall, hbl⟩ := hrel
    have hsz := hbl.size
    by_cases hlt : k < xs.length
    · have hx := List.getElem?_eq_getElem hlt
      obtain ⟨_, bk, o, ea, hbk, hcc⟩ := (HV.out.below (hbl.mono hB)).at (k := k) (x := insC xs[k]) (by rw [List.getElem?_map, hx]; rfl)
      have hc := HC.out xs[k] (List.getElem_mem hlt)
      have HN : Hid (r xs[k] = true → ∀ j (h : j < xs.length), j < k + 1 → r xs[j] = true) := Lib.hid (fun hr j h h' => by
        by_cases e : j = k
        · subst e; exact hr
        · exact hall.out j h (by omega))
      have HF : Hid (r xs[k] = false → idxI r xs = k) := Lib.hid (fun hr => idxI_at hlt hall.out hr)
      have h0 : wr.cell? ⟨bk, o + k * 4, none⟩ = some (.int .i64 xs[k].op) := hcc 0 _ rfl
      have h1 : wr.cell? ⟨bk, o + k * 4 + 1, none⟩ = some (.int .i64 xs[k].a) := hcc 1 _ rfl
      have h2 : wr.cell? ⟨bk, o + k * 4 + 2, none⟩ = some (.int .i64 xs[k].b) := hcc 2 _ rfl
      have h3 : wr.cell? ⟨bk, o + k * 4 + 3, none⟩ = some (.int .i64 xs[k].c) := hcc 3 _ rfl
      clear hcc hx
      subst ea
      generalize xs[k] = x at *
      have hc' : ∀ w', Below w.heap.size w w' → ∀ b, r x = b → Calls Tryz.prog 68 #[.agg #[.int .i64 x.op, .int .i64 x.a, .int .i64 x.b, .int .i64 x.c], .pointer (some ⟨fb, 0, none⟩)] w' fun e w'' => e = .returned (.bool (!b)) ∧ Below w'.heap.size w' w'' := fun w' hw b hb => by rw [← hb]; exact hc w' hw
      clear hc
      cases hr : r x with
      | true =>
        have HN2 := Lib.hid (HN.out hr)
        have hc2 := hc' wr hbl true hr
        clear HN HF hc' hr
        go_wp2_with (go_at_call 68; refine hc2.mono ?_; rintro e w1 ⟨rfl, hb1⟩)
        go_roundw
        case rel => exact ⟨k + 1, by omega, by go_num, HN2, hbl.trans (hb1.mono hsz)⟩
        case measure => simp [intOf]; omega
      | false =>
        have HF2 := Lib.hid (HF.out hr)
        have hc2 := hc' wr hbl false hr
        clear HN HF hc' hr
        go_wp2_with (go_at_call 68; refine hc2.mono ?_; rintro e w1 ⟨rfl, hb1⟩)
        go_ret
        exact ⟨ret_int HF2.out.symm, hbl.trans (hb1.mono hsz)⟩
    · have HE := Lib.hid (idxI_none (r := r) (xs := xs) (fun j h => hall.out j h (by omega)))
      go_wp2
      go_ret
      exact ⟨ret_int HE.out.symm, hbl⟩

theorem containsI_ret (xs : List InsL) (r : InsL → Bool) (B fb : Nat) (v : Value) (hl : xs.length ≤ 1499) (w : World) (hB : B ≤ w.heap.size) (hv : SlAt w B 4 v (xs.map insC)) (hcl : ∀ x ∈ xs, ∀ w', Below w.heap.size w w' → Calls Tryz.prog 68 #[.agg #[.int .i64 x.op, .int .i64 x.a, .int .i64 x.b, .int .i64 x.c], .pointer (some ⟨fb, 0, none⟩)] w' fun e w'' => e = .returned (.bool (!(r x))) ∧ Below w'.heap.size w' w'') :
    Calls Tryz.prog 67 #[v, .func (.func 68) #[] #[.pointer (some ⟨fb, 0, none⟩)]] w fun e w' => e = .returned (.bool (!(xs.all r))) ∧ Below w.heap.size w w' := by
  have hi := idxI_ret xs r B fb v hl w hB hv hcl
  rcases idxI_ge r xs with ⟨h1, h2⟩ | ⟨h1, h2⟩
  · rw [h1]
    rw [h2] at hi
    clear h1 h2 hv hcl
    go_enter Tryz.func67, Tryz.ntmps67
    go_wp2_with (go_at_call 93; refine hi.mono ?_; rintro e w1 ⟨rfl, hb1⟩)
    go_ret
    exact ⟨rfl, hb1⟩
  · rw [h1]
    clear h1 hv hcl
    generalize idxI r xs = m at *
    go_enter Tryz.func67, Tryz.ntmps67
    go_wp2_with (go_at_call 93; refine hi.mono ?_; rintro e w1 ⟨rfl, hb1⟩)
    go_ret
    refine ⟨ret_bool ?_, hb1⟩
    first | rfl | simpa using h2

set_option maxHeartbeats 4000000 in
theorem everyI_ret (xs : List InsL) (r : InsL → Bool) (B : Nat) (v : Value) (fv : Value) (hl : xs.length ≤ 1499) (w : World) (hB : B ≤ w.heap.size) (hv : SlAt w B 4 v (xs.map insC))
    (hcl : ∀ x ∈ xs, ∀ w', Below (w.heap.size + 1) (w.alloc (.cells #[fv] 79)) w' → Calls Tryz.prog 68 #[.agg #[.int .i64 x.op, .int .i64 x.a, .int .i64 x.b, .int .i64 x.c], .pointer (some ⟨w.heap.size, 0, none⟩)] w' fun e w'' => e = .returned (.bool (!(r x))) ∧ Below w'.heap.size w' w'') (hfv : fv.oneCell' = true) (hfc : fv.cells = #[fv]) :
    Calls Tryz.prog 34 #[v, fv] w fun e w' => e = .returned (.bool (xs.all r)) ∧ Below w.heap.size w w' := by
  have hb0 : Below w.heap.size w (w.alloc (.cells #[fv] 79)) := (Below.refl _ _).alloc (Nat.le_refl _) _
  have hs : (w.alloc (.cells #[fv] 79)).heap.size = w.heap.size + 1 := by simp
  have hc := containsI_ret xs r B w.heap.size v hl (w.alloc (.cells #[fv] 79)) (Nat.le_trans hB hb0.size) (hv.below (hb0.mono hB)) (fun x hx w' hw => hcl x hx w' (by rw [← hs]; exact hw))
  obtain ⟨a, cap, rfl⟩ := hv.slice
  rw [List.length_map] at *
  clear hcl hv
  generalize xs.all r = b at *
  go_enter Tryz.func34, Tryz.ntmps34
  go_wp2_with (go_at_call 67; refine hc.mono ?_; rintro e w1 ⟨rfl, hb1⟩)
  go_ret
  exact ⟨rfl, hb0.trans (hb1.mono hb0.size)⟩

set_option maxHeartbeats 4000000 in
theorem idxG_ret (xs : List GuL) (r : GuL → Bool) (B fb : Nat) (v : Value) (hl : xs.length ≤ 1499) (w : World) (hB : B ≤ w.heap.size) (hv : SlAt w B 4 v (xs.map guC)) (hcl : ∀ x ∈ xs, ∀ w', Below w.heap.size w w' → Calls Tryz.prog 71 #[.agg #[.int .i64 x.f, .int .i64 x.t, .int .i64 x.g, .int .i64 x.r], .pointer (some ⟨fb, 0, none⟩)] w' fun e w'' => e = .returned (.bool (!(r x))) ∧ Below w'.heap.size w' w'') :
    Calls Tryz.prog 94 #[v, .func (.func 71) #[] #[.pointer (some ⟨fb, 0, none⟩)]] w fun e w' => e = .returned (.int .i64 (idxI r xs)) ∧ Below w.heap.size w w' := by
  obtain ⟨a, cap, rfl⟩ := hv.slice
  have HV := Lib.hid hv
  have HC := Lib.hid hcl
  clear hv hcl
  rw [List.length_map]
  go_enter Tryz.func94, Tryz.ntmps94
  go_wp2
  go_loopw [4, 5, 8] (fun z j i W => ∃ k : Nat, k ≤ xs.length ∧ i = .int .i64 k ∧ Hid (∀ j (h : j < xs.length), j < k → r xs[j] = true) ∧ Below w.heap.size w W) (fun _ _ i _ => xs.length - (intOf i).toNat)
  case atStart => exact ⟨0, Nat.zero_le _, rfl, Lib.hid (fun j h h' => absurd h' (Nat.not_lt_zero _)), Below.refl _ _⟩
  case round =>
    obtain ⟨k, hk, rfl, hall, hbl⟩ := hrel
    have hsz := hbl.size
    by_cases hlt : k < xs.length
    · have hx := List.getElem?_eq_getElem hlt
      obtain ⟨_, bk, o, ea, hbk, hcc⟩ := (HV.out.below (hbl.mono hB)).at (k := k) (x := guC xs[k]) (by rw [List.getElem?_map, hx]; rfl)
      have hc := HC.out xs[k] (List.getElem_mem hlt)
      have HN : Hid (r xs[k] = true → ∀ j (h : j < xs.length), j < k + 1 → r xs[j] = true) := Lib.hid (fun hr j h h' => by
        by_cases e : j = k
        · subst e; exact hr
        · exact hall.out j h (by omega))
      have HF : Hid (r xs[k] = false → idxI r xs = k) := Lib.hid (fun hr => idxI_at hlt hall.out hr)
      have h0 : wr.cell? ⟨bk, o + k * 4, none⟩ = some (.int .i64 xs[k].f) := hcc 0 _ rfl
      have h1 : wr.cell? ⟨bk, o + k * 4 + 1, none⟩ = some (.int .i64 xs[k].t) := hcc 1 _ rfl
      have h2 : wr.cell? ⟨bk, o + k * 4 + 2, none⟩ = some (.int .i64 xs[k].g) := hcc 2 _ rfl
      have h3 : wr.cell? ⟨bk, o + k * 4 + 3, none⟩ = some (.int .i64 xs[k].r) := hcc 3 _ rfl
      clear hcc hx
      subst ea
      generalize xs[k] = x at *
      have hc' : ∀ w', Below w.heap.size w w' → ∀ b, r x = b → Calls Tryz.prog 71 #[.agg #[.int .i64 x.f, .int .i64 x.t, .int .i64 x.g, .int .i64 x.r], .pointer (some ⟨fb, 0, none⟩)] w' fun e w'' => e = .returned (.bool (!b)) ∧ Below w'.heap.size w' w'' := fun w' hw b hb => by rw [← hb]; exact hc w' hw
      clear hc
      cases hr : r x with
      | true =>
        have HN2 := Lib.hid (HN.out hr)
        have hc2 := hc' wr hbl true hr
        clear HN HF hc' hr
        go_wp2_with (go_at_call 71; refine hc2.mono ?_; rintro e w1 ⟨rfl, hb1⟩)
        go_roundw
        case rel => exact ⟨k + 1, by omega, by go_num, HN2, hbl.trans (hb1.mono hsz)⟩
        case measure => simp [intOf]; omega
      | false =>
        have HF2 := Lib.hid (HF.out hr)
        have hc2 := hc' wr hbl false hr
        clear HN HF hc' hr
        go_wp2_with (go_at_call 71; refine hc2.mono ?_; rintro e w1 ⟨rfl, hb1⟩)
        go_ret
        exact ⟨ret_int HF2.out.symm, hbl.trans (hb1.mono hsz)⟩
    · have HE := Lib.hid (idxI_none (r := r) (xs := xs) (fun j h => hall.out j h (by omega)))
      go_wp2
      go_ret
      exact ⟨ret_int HE.out.symm, hbl⟩

theorem containsG_ret (xs : List GuL) (r : GuL → Bool) (B fb : Nat) (v : Value) (hl : xs.length ≤ 1499) (w : World) (hB : B ≤ w.heap.size) (hv : SlAt w B 4 v (xs.map guC)) (hcl : ∀ x ∈ xs, ∀ w', Below w.heap.size w w' → Calls Tryz.prog 71 #[.agg #[.int .i64 x.f, .int .i64 x.t, .int .i64 x.g, .int .i64 x.r], .pointer (some ⟨fb, 0, none⟩)] w' fun e w'' => e = .returned (.bool (!(r x))) ∧ Below w'.heap.size w' w'') :
    Calls Tryz.prog 70 #[v, .func (.func 71) #[] #[.pointer (some ⟨fb, 0, none⟩)]] w fun e w' => e = .returned (.bool (!(xs.all r))) ∧ Below w.heap.size w w' := by
  have hi := idxG_ret xs r B fb v hl w hB hv hcl
  rcases idxI_ge r xs with ⟨h1, h2⟩ | ⟨h1, h2⟩
  · rw [h1]
    rw [h2] at hi
    clear h1 h2 hv hcl
    go_enter Tryz.func70, Tryz.ntmps70
    go_wp2_with (go_at_call 94; refine hi.mono ?_; rintro e w1 ⟨rfl, hb1⟩)
    go_ret
    exact ⟨rfl, hb1⟩
  · rw [h1]
    clear h1 hv hcl
    generalize idxI r xs = m at *
    go_enter Tryz.func70, Tryz.ntmps70
    go_wp2_with (go_at_call 94; refine hi.mono ?_; rintro e w1 ⟨rfl, hb1⟩)
    go_ret
    refine ⟨ret_bool ?_, hb1⟩
    first | rfl | simpa using h2

set_option maxHeartbeats 4000000 in
theorem everyG_ret (xs : List GuL) (r : GuL → Bool) (B : Nat) (v : Value) (fv : Value) (hl : xs.length ≤ 1499) (w : World) (hB : B ≤ w.heap.size) (hv : SlAt w B 4 v (xs.map guC))
    (hcl : ∀ x ∈ xs, ∀ w', Below (w.heap.size + 1) (w.alloc (.cells #[fv] 82)) w' → Calls Tryz.prog 71 #[.agg #[.int .i64 x.f, .int .i64 x.t, .int .i64 x.g, .int .i64 x.r], .pointer (some ⟨w.heap.size, 0, none⟩)] w' fun e w'' => e = .returned (.bool (!(r x))) ∧ Below w'.heap.size w' w'') (hfv : fv.oneCell' = true) (hfc : fv.cells = #[fv]) :
    Calls Tryz.prog 37 #[v, fv] w fun e w' => e = .returned (.bool (xs.all r)) ∧ Below w.heap.size w w' := by
  have hb0 : Below w.heap.size w (w.alloc (.cells #[fv] 82)) := (Below.refl _ _).alloc (Nat.le_refl _) _
  have hs : (w.alloc (.cells #[fv] 82)).heap.size = w.heap.size + 1 := by simp
  have hc := containsG_ret xs r B w.heap.size v hl (w.alloc (.cells #[fv] 82)) (Nat.le_trans hB hb0.size) (hv.below (hb0.mono hB)) (fun x hx w' hw => hcl x hx w' (by rw [← hs]; exact hw))
  obtain ⟨a, cap, rfl⟩ := hv.slice
  rw [List.length_map] at *
  clear hcl hv
  generalize xs.all r = b at *
  go_enter Tryz.func37, Tryz.ntmps37
  go_wp2_with (go_at_call 70; refine hc.mono ?_; rintro e w1 ⟨rfl, hb1⟩)
  go_ret
  exact ⟨rfl, hb0.trans (hb1.mono hb0.size)⟩

end Go.Proofs.YtnkidmnddkmilaaGreatDoor
