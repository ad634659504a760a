/-
  Which codes are right: the reference.
-/
import Derived.Test.YtnkidmnddkmilaaGreatDoorAeAsRight
namespace Go.Proofs.YtnkidmnddkmilaaGreatDoor
open Go.RowKit
set_option maxRecDepth 100000

theorem all_no {X : Type} {r : X → Bool} {xs : List X} {k : Nat} (hk : k < xs.length) (h : r xs[k] = false) : xs.all r = false := by
  rw [Bool.eq_false_iff]
  intro ha
  rw [List.all_eq_true] at ha
  rw [ha _ (List.getElem_mem hk)] at h
  cases h
theorem all_yes {X : Type} {r : X → Bool} {xs : List X} (h : ∀ j (hj : j < xs.length), r xs[j] = true) : xs.all r = true := by
  rw [List.all_eq_true]
  intro x hx
  obtain ⟨j, hj, rfl⟩ := List.getElem_of_mem hx
  exact h j hj

/-- a guard of the reference -/
theorem guB_eq (c : CodeL) (g : GuL) : guB c g = (decide (0 ≤ g.f ∧ g.f < g.t ∧ g.t ≤ (c.ins.length : Int)) && (opndB c 106 g.g && opndB c 114 g.r)) := rfl

theorem elI (c : CodeL) (ai : Option Addr) (ci : Nat) (ap : Option Addr) (cp : Nat) (ak : Option Addr) (ck : Nat) (ag : Option Addr) (cg : Nat) (hw : Few c) (hn : Nums c) (hr0 : 0 ≤ c.regs) (hr1 : c.regs ≤ 4096) (B N : Nat) (w0 : World)
    (hW : ∀ W, Below N w0 W → B ≤ W.heap.size ∧ CodeAt W B c (.slice ai c.ins.length ci) (.slice ap c.pool.length cp) (.slice ak c.keys.length ck) (.slice ag c.guards.length cg)) (k : Nat) (hk : k < c.ins.length) (W : World) (hB : Below N w0 W) :
    ∃ (bk o : Nat) (v0 : Int) (v1 : Int) (v2 : Int) (v3 : Int), ai = some ⟨bk, o, none⟩ ∧ bk < W.heap.size ∧ (W.cell? ⟨bk, o + k * 4, none⟩ = some (.int .i64 v0) ∧ W.cell? ⟨bk, o + k * 4 + 1, none⟩ = some (.int .i64 v1) ∧ W.cell? ⟨bk, o + k * 4 + 2, none⟩ = some (.int .i64 v2) ∧ W.cell? ⟨bk, o + k * 4 + 3, none⟩ = some (.int .i64 v3)) ∧
      (((fun x => insB c x) c.ins[k] = true ∧ (∀ W', Below N w0 W' → Calls Tryz.prog 47 #[.agg #[.string c.name, .int .i64 c.kind, .int .i64 c.len, .int .i64 c.regs, .slice ai c.ins.length ci, .slice ap c.pool.length cp, .slice ak c.keys.length ck, .slice ag c.guards.length cg], .agg #[.int .i64 v0, .int .i64 v1, .int .i64 v2, .int .i64 v3]] W' fun e w' => e = .returned (.bool true) ∧ Below W'.heap.size W' w')) ∨ ((fun x => insB c x) c.ins[k] = false ∧ (∀ W', Below N w0 W' → Calls Tryz.prog 47 #[.agg #[.string c.name, .int .i64 c.kind, .int .i64 c.len, .int .i64 c.regs, .slice ai c.ins.length ci, .slice ap c.pool.length cp, .slice ak c.keys.length ck, .slice ag c.guards.length cg], .agg #[.int .i64 v0, .int .i64 v1, .int .i64 v2, .int .i64 v3]] W' fun e w' => e = .returned (.bool false) ∧ Below W'.heap.size W' w'))) := by
  have hx := List.getElem?_eq_getElem hk
  have hxm := List.getElem_mem hk
  obtain ⟨_, bk, o, ea, hbk, hcc⟩ := ((hW W hB).2.ins).at (k := k) (x := insC c.ins[k]) (by rw [List.getElem?_map, hx]; rfl)
  refine ⟨bk, o, c.ins[k].op, c.ins[k].a, c.ins[k].b, c.ins[k].c, ea, Nat.lt_of_lt_of_le hbk (hW W hB).1, ⟨hcc 0 _ rfl, hcc 1 _ rfl, hcc 2 _ rfl, hcc 3 _ rfl⟩, ?_⟩
  have hC : ∀ W', Below N w0 W' → Calls Tryz.prog 47 #[.agg #[.string c.name, .int .i64 c.kind, .int .i64 c.len, .int .i64 c.regs, .slice ai c.ins.length ci, .slice ap c.pool.length cp, .slice ak c.keys.length ck, .slice ag c.guards.length cg], .agg #[.int .i64 c.ins[k].op, .int .i64 c.ins[k].a, .int .i64 c.ins[k].b, .int .i64 c.ins[k].c]] W' fun e w' => e = .returned (.bool ((fun x => insB c x) c.ins[k])) ∧ Below W'.heap.size W' w' := fun W' hW' => ins_ret 47 50 56 (Or.inr ⟨rfl, rfl, rfl⟩) c B _ _ _ _ hw hr0 hr1 c.ins[k].op c.ins[k].a c.ins[k].b c.ins[k].c (hn.ins _ hxm).2.1 (hn.ins _ hxm).2.2.1 (hn.ins _ hxm).2.2.2 W' (hW W' hW').1 (hW W' hW').2
  cases hb : (fun x => insB c x) c.ins[k] with
  | true => exact Or.inl ⟨rfl, by rw [hb] at hC; exact hC⟩
  | false => exact Or.inr ⟨rfl, by rw [hb] at hC; exact hC⟩

theorem elV (c : CodeL) (ai : Option Addr) (ci : Nat) (ap : Option Addr) (cp : Nat) (ak : Option Addr) (ck : Nat) (ag : Option Addr) (cg : Nat) (hw : Few c) (_hn : Nums c) (_hr0 : 0 ≤ c.regs) (_hr1 : c.regs ≤ 4096) (B N : Nat) (w0 : World)
    (hW : ∀ W, Below N w0 W → B ≤ W.heap.size ∧ CodeAt W B c (.slice ai c.ins.length ci) (.slice ap c.pool.length cp) (.slice ak c.keys.length ck) (.slice ag c.guards.length cg)) (k : Nat) (hk : k < c.pool.length) (W : World) (hB : Below N w0 W) :
    ∃ (bk o : Nat) (v0 : Int) (v1 : Int) (v2 : ByteArray), ap = some ⟨bk, o, none⟩ ∧ bk < W.heap.size ∧ (W.cell? ⟨bk, o + k * 3, none⟩ = some (.int .i64 v0) ∧ W.cell? ⟨bk, o + k * 3 + 1, none⟩ = some (.int .i64 v1) ∧ W.cell? ⟨bk, o + k * 3 + 2, none⟩ = some (.string v2)) ∧
      (((fun v => valB v.k v.n v.s) c.pool[k] = true ∧ (∀ W', Below N w0 W' → Calls Tryz.prog 48 #[.agg #[.int .i64 v0, .int .i64 v1, .string v2]] W' fun e w' => e = .returned (.bool true) ∧ Below W'.heap.size W' w')) ∨ ((fun v => valB v.k v.n v.s) c.pool[k] = false ∧ (∀ W', Below N w0 W' → Calls Tryz.prog 48 #[.agg #[.int .i64 v0, .int .i64 v1, .string v2]] W' fun e w' => e = .returned (.bool false) ∧ Below W'.heap.size W' w'))) := by
  have hx := List.getElem?_eq_getElem hk
  have hxm := List.getElem_mem hk
  obtain ⟨_, bk, o, ea, hbk, hcc⟩ := ((hW W hB).2.pool).at (k := k) (x := valC c.pool[k]) (by rw [List.getElem?_map, hx]; rfl)
  refine ⟨bk, o, c.pool[k].k, c.pool[k].n, c.pool[k].s, ea, Nat.lt_of_lt_of_le hbk (hW W hB).1, ⟨hcc 0 _ rfl, hcc 1 _ rfl, hcc 2 _ rfl⟩, ?_⟩
  have hC : ∀ W', Below N w0 W' → Calls Tryz.prog 48 #[.agg #[.int .i64 c.pool[k].k, .int .i64 c.pool[k].n, .string c.pool[k].s]] W' fun e w' => e = .returned (.bool ((fun v => valB v.k v.n v.s) c.pool[k])) ∧ Below W'.heap.size W' w' := fun W' hW' => rval_ret c.pool[k].k c.pool[k].n c.pool[k].s (hw.vs _ hxm) W'
  cases hb : (fun v => valB v.k v.n v.s) c.pool[k] with
  | true => exact Or.inl ⟨rfl, by rw [hb] at hC; exact hC⟩
  | false => exact Or.inr ⟨rfl, by rw [hb] at hC; exact hC⟩

theorem elK (c : CodeL) (ai : Option Addr) (ci : Nat) (ap : Option Addr) (cp : Nat) (ak : Option Addr) (ck : Nat) (ag : Option Addr) (cg : Nat) (hw : Few c) (_hn : Nums c) (_hr0 : 0 ≤ c.regs) (_hr1 : c.regs ≤ 4096) (B N : Nat) (w0 : World)
    (hW : ∀ W, Below N w0 W → B ≤ W.heap.size ∧ CodeAt W B c (.slice ai c.ins.length ci) (.slice ap c.pool.length cp) (.slice ak c.keys.length ck) (.slice ag c.guards.length cg)) (k : Nat) (hk : k < c.keys.length) (W : World) (hB : Below N w0 W) :
    ∃ (bk o : Nat) (v0 : Int) (v1 : Int) (v2 : ByteArray), ak = some ⟨bk, o, none⟩ ∧ bk < W.heap.size ∧ (W.cell? ⟨bk, o + k * 3, none⟩ = some (.int .i64 v0) ∧ W.cell? ⟨bk, o + k * 3 + 1, none⟩ = some (.int .i64 v1) ∧ W.cell? ⟨bk, o + k * 3 + 2, none⟩ = some (.string v2)) ∧
      (((fun v => keyB v.k v.n v.s) c.keys[k] = true ∧ (∀ W', Below N w0 W' → Calls Tryz.prog 49 #[.agg #[.int .i64 v0, .int .i64 v1, .string v2]] W' fun e w' => e = .returned (.bool true) ∧ Below W'.heap.size W' w')) ∨ ((fun v => keyB v.k v.n v.s) c.keys[k] = false ∧ (∀ W', Below N w0 W' → Calls Tryz.prog 49 #[.agg #[.int .i64 v0, .int .i64 v1, .string v2]] W' fun e w' => e = .returned (.bool false) ∧ Below W'.heap.size W' w'))) := by
  have hx := List.getElem?_eq_getElem hk
  have hxm := List.getElem_mem hk
  obtain ⟨_, bk, o, ea, hbk, hcc⟩ := ((hW W hB).2.keys).at (k := k) (x := keyC c.keys[k]) (by rw [List.getElem?_map, hx]; rfl)
  refine ⟨bk, o, c.keys[k].k, c.keys[k].n, c.keys[k].s, ea, Nat.lt_of_lt_of_le hbk (hW W hB).1, ⟨hcc 0 _ rfl, hcc 1 _ rfl, hcc 2 _ rfl⟩, ?_⟩
  have hC : ∀ W', Below N w0 W' → Calls Tryz.prog 49 #[.agg #[.int .i64 c.keys[k].k, .int .i64 c.keys[k].n, .string c.keys[k].s]] W' fun e w' => e = .returned (.bool ((fun v => keyB v.k v.n v.s) c.keys[k])) ∧ Below W'.heap.size W' w' := fun W' hW' => rkeyRight c.keys[k].k c.keys[k].n c.keys[k].s (hw.ks _ hxm) W'
  cases hb : (fun v => keyB v.k v.n v.s) c.keys[k] with
  | true => exact Or.inl ⟨rfl, by rw [hb] at hC; exact hC⟩
  | false => exact Or.inr ⟨rfl, by rw [hb] at hC; exact hC⟩

theorem elG (c : CodeL) (ai : Option Addr) (ci : Nat) (ap : Option Addr) (cp : Nat) (ak : Option Addr) (ck : Nat) (ag : Option Addr) (cg : Nat) (hw : Few c) (hn : Nums c) (hr0 : 0 ≤ c.regs) (hr1 : c.regs ≤ 4096) (B N : Nat) (w0 : World)
    (hW : ∀ W, Below N w0 W → B ≤ W.heap.size ∧ CodeAt W B c (.slice ai c.ins.length ci) (.slice ap c.pool.length cp) (.slice ak c.keys.length ck) (.slice ag c.guards.length cg)) (k : Nat) (hk : k < c.guards.length) (W : World) (hB : Below N w0 W) :
    ∃ (bk o : Nat) (v0 : Int) (v1 : Int) (v2 : Int) (v3 : Int) (b1 b2 : Bool), ag = some ⟨bk, o, none⟩ ∧ bk < W.heap.size ∧ (W.cell? ⟨bk, o + k * 4, none⟩ = some (.int .i64 v0) ∧ W.cell? ⟨bk, o + k * 4 + 1, none⟩ = some (.int .i64 v1) ∧ W.cell? ⟨bk, o + k * 4 + 2, none⟩ = some (.int .i64 v2) ∧ W.cell? ⟨bk, o + k * 4 + 3, none⟩ = some (.int .i64 v3)) ∧
      (fun x => guB c x) c.guards[k] = (decide (0 ≤ v0 ∧ v0 < v1 ∧ v1 ≤ (c.ins.length : Int)) && (b1 && b2)) ∧
      (∀ W', Below N w0 W' → Calls Tryz.prog 50 #[.agg #[.string c.name, .int .i64 c.kind, .int .i64 c.len, .int .i64 c.regs, .slice ai c.ins.length ci, .slice ap c.pool.length cp, .slice ak c.keys.length ck, .slice ag c.guards.length cg], .int .u8 106, .int .i64 v2] W' fun e w' => e = .returned (.bool b1) ∧ Below W'.heap.size W' w') ∧
      (∀ W', Below N w0 W' → Calls Tryz.prog 50 #[.agg #[.string c.name, .int .i64 c.kind, .int .i64 c.len, .int .i64 c.regs, .slice ai c.ins.length ci, .slice ap c.pool.length cp, .slice ak c.keys.length ck, .slice ag c.guards.length cg], .int .u8 114, .int .i64 v3] W' fun e w' => e = .returned (.bool b2) ∧ Below W'.heap.size W' w') := by
  have hx := List.getElem?_eq_getElem hk
  have hxm := List.getElem_mem hk
  obtain ⟨_, bk, o, ea, hbk, hcc⟩ := ((hW W hB).2.guards).at (k := k) (x := guC c.guards[k]) (by rw [List.getElem?_map, hx]; rfl)
  exact ⟨bk, o, c.guards[k].f, c.guards[k].t, c.guards[k].g, c.guards[k].r, opndB c 106 c.guards[k].g, opndB c 114 c.guards[k].r, ea, Nat.lt_of_lt_of_le hbk (hW W hB).1, ⟨hcc 0 _ rfl, hcc 1 _ rfl, hcc 2 _ rfl, hcc 3 _ rfl⟩, rfl,
    fun W' hW' => opnd_ret 50 (Or.inr rfl) c B _ _ _ _ hw hr0 hr1 106 _ (Or.inr (by unfold isSign; omega)) (hn.guards _ hxm).2.2.1 W' (hW W' hW').2,
    fun W' hW' => opnd_ret 50 (Or.inr rfl) c B _ _ _ _ hw hr0 hr1 114 _ (Or.inr (by unfold isSign; omega)) (hn.guards _ hxm).2.2.2 W' (hW W' hW').2⟩

set_option maxHeartbeats 16000000 in
theorem rright_yes (c : CodeL) (ai : Option Addr) (ci : Nat) (ap : Option Addr) (cp : Nat) (ak : Option Addr) (ck : Nat) (ag : Option Addr) (cg : Nat) (hw : Few c) (hn : Nums c) (hk0 : 0 ≤ c.kind) (hk1 : c.kind ≤ 255) (hl0 : 0 ≤ c.len) (hl1 : c.len ≤ 1024) (hr0 : 0 ≤ c.regs) (hr1 : c.regs ≤ 4096) (B : Nat) (w : World) (hB : B ≤ w.heap.size)
    (hc : CodeAt w B c (.slice ai c.ins.length ci) (.slice ap c.pool.length cp) (.slice ak c.keys.length ck) (.slice ag c.guards.length cg)) :
    Calls Tryz.prog 21 #[.agg #[.string c.name, .int .i64 c.kind, .int .i64 c.len, .int .i64 c.regs, .slice ai c.ins.length ci, .slice ap c.pool.length cp, .slice ak c.keys.length ck, .slice ag c.guards.length cg]] w fun e w' => e = .returned (.bool ((c.ins.all fun x => insB c x) && ((c.pool.all fun v => valB v.k v.n v.s) && ((c.keys.all fun v => keyB v.k v.n v.s) && (c.guards.all fun x => guB c x))))) ∧ Below w.heap.size w w' := by
  obtain ⟨Z, hZ⟩ : ∃ Z, Z = (w.alloc (.cells #[.string c.name, .int .i64 c.kind, .int .i64 c.len, .int .i64 c.regs, .slice ai c.ins.length ci, .slice ap c.pool.length cp, .slice ak c.keys.length ck, .slice ag c.guards.length cg] 36)) := ⟨_, rfl⟩
  have hb0 : Below w.heap.size w Z := by rw [hZ]; exact (Below.refl _ _).alloc (Nat.le_refl _) _
  have hz0 : w.heap.size + 1 ≤ Z.heap.size := by rw [hZ]; simp
  have HST : Hid (Below (w.heap.size + 1) Z (w.alloc (.cells #[.string c.name, .int .i64 c.kind, .int .i64 c.len, .int .i64 c.regs, .slice ai c.ins.length ci, .slice ap c.pool.length cp, .slice ak c.keys.length ck, .slice ag c.guards.length cg] 36))) := Lib.hid (by rw [hZ]; exact Below.refl _ _)
  have HZ0 := Lib.hid hz0
  have HBX : Hid (∀ W, Below (w.heap.size + 1) Z W → ∀ o, W.cell? ⟨w.heap.size, o, none⟩ = (#[.string c.name, .int .i64 c.kind, .int .i64 c.len, .int .i64 c.regs, .slice ai c.ins.length ci, .slice ap c.pool.length cp, .slice ak c.keys.length ck, .slice ag c.guards.length cg] : Array Value)[o]?) := Lib.hid (fun W hW o => by
    rw [hW.cell (p := ⟨w.heap.size, o, none⟩) (by show w.heap.size < _; omega), hZ, Lib.cell_of_heap (heap_alloc_new w _)])
  have HCW : Hid (∀ W, Below (w.heap.size + 1) Z W → Below w.heap.size w W ∧ B ≤ W.heap.size ∧ CodeAt W B c (.slice ai c.ins.length ci) (.slice ap c.pool.length cp) (.slice ak c.keys.length ck) (.slice ag c.guards.length cg)) := Lib.hid (fun W hW => by
    have h1 : Below w.heap.size w W := hb0.trans (hW.mono (by omega))
    exact ⟨h1, Nat.le_trans hB h1.size, hc.below (h1.mono hB)⟩)
  have i0 := hw.name
  have i1 := hw.ins
  have i2 := hw.pool
  have i3 := hw.keys
  have i4 := hw.guards
  have hWW : ∀ W, Below (w.heap.size + 1) Z W → B ≤ W.heap.size ∧ CodeAt W B c (.slice ai c.ins.length ci) (.slice ap c.pool.length cp) (.slice ak c.keys.length ck) (.slice ag c.guards.length cg) := fun W hW => (HCW.out W hW).2
  have ELI := Lib.hid (elI c ai ci ap cp ak ck ag cg hw hn hr0 hr1 B (w.heap.size + 1) Z hWW)
  have ELV := Lib.hid (elV c ai ci ap cp ak ck ag cg hw hn hr0 hr1 B (w.heap.size + 1) Z hWW)
  have ELK := Lib.hid (elK c ai ci ap cp ak ck ag cg hw hn hr0 hr1 B (w.heap.size + 1) Z hWW)
  have ELG := Lib.hid (elG c ai ci ap cp ak ck ag cg hw hn hr0 hr1 B (w.heap.size + 1) Z hWW)
  have HE := Lib.hid (And.intro hw hn)
  clear hb0 hz0 hc hw hn hWW hZ
  go_enter Tryz.func21, Tryz.ntmps21
  go_wp2
  go_loopw [3] (fun i W => ∃ k : Nat, k ≤ c.ins.length ∧ i = .int .i64 k ∧ Hid (∀ j (h : j < c.ins.length), j < k → (fun x => insB c x) c.ins[j] = true) ∧ Hid (Below (w.heap.size + 1) Z W)) (fun i _ => c.ins.length - (intOf i).toNat)
  case atStart => exact ⟨0, Nat.zero_le _, rfl, Lib.hid (fun j h h' => absurd h' (Nat.not_lt_zero _)), HST⟩
  case round =>
    obtain ⟨k, hk, rfl, hall0, hb0⟩ := hrel
    have b0_0 : wr.cell? ⟨w.heap.size, 0, none⟩ = some (.string c.name) := HBX.out wr hb0.out 0
    have b0_1 : wr.cell? ⟨w.heap.size, 1, none⟩ = some (.int .i64 c.kind) := HBX.out wr hb0.out 1
    have b0_2 : wr.cell? ⟨w.heap.size, 2, none⟩ = some (.int .i64 c.len) := HBX.out wr hb0.out 2
    have b0_3 : wr.cell? ⟨w.heap.size, 3, none⟩ = some (.int .i64 c.regs) := HBX.out wr hb0.out 3
    have b0_4 : wr.cell? ⟨w.heap.size, 4, none⟩ = some (.slice ai c.ins.length ci) := HBX.out wr hb0.out 4
    have b0_5 : wr.cell? ⟨w.heap.size, 5, none⟩ = some (.slice ap c.pool.length cp) := HBX.out wr hb0.out 5
    have b0_6 : wr.cell? ⟨w.heap.size, 6, none⟩ = some (.slice ak c.keys.length ck) := HBX.out wr hb0.out 6
    have b0_7 : wr.cell? ⟨w.heap.size, 7, none⟩ = some (.slice ag c.guards.length cg) := HBX.out wr hb0.out 7
    have hlt_0 : w.heap.size < wr.heap.size := Nat.lt_of_lt_of_le (Nat.lt_of_lt_of_le (Nat.lt_succ_self _) HZ0.out) hb0.out.size
    by_cases hlt : k < c.ins.length
    · obtain ⟨bk, o, v0, v1, v2, v3, ea, hbk, ⟨x0, x1, x2, x3⟩, hway⟩ := ELI.out k hlt wr hb0.out
      have HW := Lib.hid hway
      clear hway
      subst ea
      rcases HW.out with ⟨hr, hc3⟩ | ⟨hr, hc3⟩
      · have HC3 := Lib.hid hc3
        have HN2 : Hid (∀ j (h : j < c.ins.length), j < k + 1 → (fun x => insB c x) c.ins[j] = true) := Lib.hid (fun j h h' => by
          by_cases e : j = k
          · subst e; exact hr
          · exact hall0.out j h (by omega))
        clear hr hc3 HW hall0
        have hbd := hb0.out.drew
        go_wp2_with (fail)
        go_region_held3 (fun w' => w'.cell? ⟨w.heap.size, 0, none⟩ = some (.string c.name) ∧ w'.cell? ⟨w.heap.size, 1, none⟩ = some (.int .i64 c.kind) ∧ w'.cell? ⟨w.heap.size, 2, none⟩ = some (.int .i64 c.len) ∧ w'.cell? ⟨w.heap.size, 3, none⟩ = some (.int .i64 c.regs) ∧ w'.cell? ⟨w.heap.size, 4, none⟩ = some (.slice (some ⟨bk, o, none⟩) c.ins.length ci) ∧ w'.cell? ⟨w.heap.size, 5, none⟩ = some (.slice ap c.pool.length cp) ∧ w'.cell? ⟨w.heap.size, 6, none⟩ = some (.slice ak c.keys.length ck) ∧ w'.cell? ⟨w.heap.size, 7, none⟩ = some (.slice ag c.guards.length cg) ∧ w'.cell? ⟨bk, o + k * 4, none⟩ = some (.int .i64 v0) ∧ w'.cell? ⟨bk, o + k * 4 + 1, none⟩ = some (.int .i64 v1) ∧ w'.cell? ⟨bk, o + k * 4 + 2, none⟩ = some (.int .i64 v2) ∧ w'.cell? ⟨bk, o + k * 4 + 3, none⟩ = some (.int .i64 v3) ∧ Below (w.heap.size + 1) Z w' ∧ bk < w'.heap.size ∧ w.heap.size < w'.heap.size)
          (first | exact ⟨b0_0, b0_1, b0_2, b0_3, b0_4, b0_5, b0_6, b0_7, x0, x1, x2, x3, hbd, hbk, hlt_0⟩ | (go_split_ands; have hbk4 := hbel.size; refine ⟨(hbel.cell (p := ⟨w.heap.size, 0, none⟩) (by assumption)).trans (by assumption), (hbel.cell (p := ⟨w.heap.size, 1, none⟩) (by assumption)).trans (by assumption), (hbel.cell (p := ⟨w.heap.size, 2, none⟩) (by assumption)).trans (by assumption), (hbel.cell (p := ⟨w.heap.size, 3, none⟩) (by assumption)).trans (by assumption), (hbel.cell (p := ⟨w.heap.size, 4, none⟩) (by assumption)).trans (by assumption), (hbel.cell (p := ⟨w.heap.size, 5, none⟩) (by assumption)).trans (by assumption), (hbel.cell (p := ⟨w.heap.size, 6, none⟩) (by assumption)).trans (by assumption), (hbel.cell (p := ⟨w.heap.size, 7, none⟩) (by assumption)).trans (by assumption), (hbel.cell (p := ⟨bk, o + k * 4, none⟩) (by assumption)).trans (by assumption), (hbel.cell (p := ⟨bk, o + k * 4 + 1, none⟩) (by assumption)).trans (by assumption), (hbel.cell (p := ⟨bk, o + k * 4 + 2, none⟩) (by assumption)).trans (by assumption), (hbel.cell (p := ⟨bk, o + k * 4 + 3, none⟩) (by assumption)).trans (by assumption), ‹Below (w.heap.size + 1) _ _›.trans (hbel.mono (by omega)), by omega, by omega⟩))
          ((first | (go_at_call 47; refine (HC3.out _ ?h1).mono ?_; (case h1 => (go_split_ands; assumption)); rintro e w2 ⟨rfl, hbel⟩)))
        go_split_ands
        have hbn : Below (w.heap.size + 1) Z w2 := by assumption
        go_wp2
        go_roundw
        case rel => exact ⟨k + 1, by omega, by go_num, HN2, Lib.hid hbn⟩
        case measure => simp [intOf]; omega
      · have HC3 := Lib.hid hc3
        have HF : Hid ((c.ins.all fun x => insB c x) = false) := Lib.hid (all_no hlt hr)
        clear hr hc3 HW hall0
        have hbd := hb0.out.drew
        go_wp2_with (fail)
        go_region_held3 (fun w' => w'.cell? ⟨w.heap.size, 0, none⟩ = some (.string c.name) ∧ w'.cell? ⟨w.heap.size, 1, none⟩ = some (.int .i64 c.kind) ∧ w'.cell? ⟨w.heap.size, 2, none⟩ = some (.int .i64 c.len) ∧ w'.cell? ⟨w.heap.size, 3, none⟩ = some (.int .i64 c.regs) ∧ w'.cell? ⟨w.heap.size, 4, none⟩ = some (.slice (some ⟨bk, o, none⟩) c.ins.length ci) ∧ w'.cell? ⟨w.heap.size, 5, none⟩ = some (.slice ap c.pool.length cp) ∧ w'.cell? ⟨w.heap.size, 6, none⟩ = some (.slice ak c.keys.length ck) ∧ w'.cell? ⟨w.heap.size, 7, none⟩ = some (.slice ag c.guards.length cg) ∧ w'.cell? ⟨bk, o + k * 4, none⟩ = some (.int .i64 v0) ∧ w'.cell? ⟨bk, o + k * 4 + 1, none⟩ = some (.int .i64 v1) ∧ w'.cell? ⟨bk, o + k * 4 + 2, none⟩ = some (.int .i64 v2) ∧ w'.cell? ⟨bk, o + k * 4 + 3, none⟩ = some (.int .i64 v3) ∧ Below (w.heap.size + 1) Z w' ∧ bk < w'.heap.size ∧ w.heap.size < w'.heap.size)
          (first | exact ⟨b0_0, b0_1, b0_2, b0_3, b0_4, b0_5, b0_6, b0_7, x0, x1, x2, x3, hbd, hbk, hlt_0⟩ | (go_split_ands; have hbk4 := hbel.size; refine ⟨(hbel.cell (p := ⟨w.heap.size, 0, none⟩) (by assumption)).trans (by assumption), (hbel.cell (p := ⟨w.heap.size, 1, none⟩) (by assumption)).trans (by assumption), (hbel.cell (p := ⟨w.heap.size, 2, none⟩) (by assumption)).trans (by assumption), (hbel.cell (p := ⟨w.heap.size, 3, none⟩) (by assumption)).trans (by assumption), (hbel.cell (p := ⟨w.heap.size, 4, none⟩) (by assumption)).trans (by assumption), (hbel.cell (p := ⟨w.heap.size, 5, none⟩) (by assumption)).trans (by assumption), (hbel.cell (p := ⟨w.heap.size, 6, none⟩) (by assumption)).trans (by assumption), (hbel.cell (p := ⟨w.heap.size, 7, none⟩) (by assumption)).trans (by assumption), (hbel.cell (p := ⟨bk, o + k * 4, none⟩) (by assumption)).trans (by assumption), (hbel.cell (p := ⟨bk, o + k * 4 + 1, none⟩) (by assumption)).trans (by assumption), (hbel.cell (p := ⟨bk, o + k * 4 + 2, none⟩) (by assumption)).trans (by assumption), (hbel.cell (p := ⟨bk, o + k * 4 + 3, none⟩) (by assumption)).trans (by assumption), ‹Below (w.heap.size + 1) _ _›.trans (hbel.mono (by omega)), by omega, by omega⟩))
          ((first | (go_at_call 47; refine (HC3.out _ ?h1).mono ?_; (case h1 => (go_split_ands; assumption)); rintro e w2 ⟨rfl, hbel⟩)))
        go_split_ands
        have hbn : Below (w.heap.size + 1) Z w2 := by assumption
        go_wp2
        go_ret
        exact ⟨ret_bool (by rw [HF.out]; rfl), (HCW.out _ hbn).1⟩
    · have HA0 : Hid ((c.ins.all fun x => insB c x) = true) := Lib.hid (all_yes (fun j h => hall0.out j h (by omega)))
      clear hall0
      go_wp2
      go_loopw [4] (fun i W => ∃ k : Nat, k ≤ c.pool.length ∧ i = .int .i64 k ∧ Hid (∀ j (h : j < c.pool.length), j < k → (fun v => valB v.k v.n v.s) c.pool[j] = true) ∧ Hid (Below (w.heap.size + 1) Z W)) (fun i _ => c.pool.length - (intOf i).toNat)
      case atStart => exact ⟨0, Nat.zero_le _, rfl, Lib.hid (fun j h h' => absurd h' (Nat.not_lt_zero _)), hb0⟩
      case round =>
        obtain ⟨k, hk, rfl, hall1, hb1⟩ := hrel
        have b1_0 : wr.cell? ⟨w.heap.size, 0, none⟩ = some (.string c.name) := HBX.out wr hb1.out 0
        have b1_1 : wr.cell? ⟨w.heap.size, 1, none⟩ = some (.int .i64 c.kind) := HBX.out wr hb1.out 1
        have b1_2 : wr.cell? ⟨w.heap.size, 2, none⟩ = some (.int .i64 c.len) := HBX.out wr hb1.out 2
        have b1_3 : wr.cell? ⟨w.heap.size, 3, none⟩ = some (.int .i64 c.regs) := HBX.out wr hb1.out 3
        have b1_4 : wr.cell? ⟨w.heap.size, 4, none⟩ = some (.slice ai c.ins.length ci) := HBX.out wr hb1.out 4
        have b1_5 : wr.cell? ⟨w.heap.size, 5, none⟩ = some (.slice ap c.pool.length cp) := HBX.out wr hb1.out 5
        have b1_6 : wr.cell? ⟨w.heap.size, 6, none⟩ = some (.slice ak c.keys.length ck) := HBX.out wr hb1.out 6
        have b1_7 : wr.cell? ⟨w.heap.size, 7, none⟩ = some (.slice ag c.guards.length cg) := HBX.out wr hb1.out 7
        have hlt_1 : w.heap.size < wr.heap.size := Nat.lt_of_lt_of_le (Nat.lt_of_lt_of_le (Nat.lt_succ_self _) HZ0.out) hb1.out.size
        by_cases hlt : k < c.pool.length
        · obtain ⟨bk, o, v0, v1, v2, ea, hbk, ⟨x0, x1, x2⟩, hway⟩ := ELV.out k hlt wr hb1.out
          have HW := Lib.hid hway
          clear hway
          subst ea
          rcases HW.out with ⟨hr, hc3⟩ | ⟨hr, hc3⟩
          · have HC3 := Lib.hid hc3
            have HN2 : Hid (∀ j (h : j < c.pool.length), j < k + 1 → (fun v => valB v.k v.n v.s) c.pool[j] = true) := Lib.hid (fun j h h' => by
              by_cases e : j = k
              · subst e; exact hr
              · exact hall1.out j h (by omega))
            clear hr hc3 HW hall1
            go_wp2_with (go_at_call 48; ((with_reducible refine (HC3.out _ hb1.out).mono ?_); rintro e w2 ⟨rfl, hbel⟩))
            have hbn : Below (w.heap.size + 1) Z w2 := hb1.out.trans (hbel.mono (Nat.le_trans HZ0.out hb1.out.size))
            go_roundw
            case rel => exact ⟨k + 1, by omega, by go_num, HN2, Lib.hid hbn⟩
            case measure => simp [intOf]; omega
          · have HC3 := Lib.hid hc3
            have HF : Hid ((c.pool.all fun v => valB v.k v.n v.s) = false) := Lib.hid (all_no hlt hr)
            clear hr hc3 HW hall1
            go_wp2_with (go_at_call 48; ((with_reducible refine (HC3.out _ hb1.out).mono ?_); rintro e w2 ⟨rfl, hbel⟩))
            have hbn : Below (w.heap.size + 1) Z w2 := hb1.out.trans (hbel.mono (Nat.le_trans HZ0.out hb1.out.size))
            go_ret
            exact ⟨ret_bool (by rw [HA0.out, HF.out]; rfl), (HCW.out _ hbn).1⟩
        · have HA1 : Hid ((c.pool.all fun v => valB v.k v.n v.s) = true) := Lib.hid (all_yes (fun j h => hall1.out j h (by omega)))
          clear hall1
          go_wp2
          go_loopw [5] (fun i W => ∃ k : Nat, k ≤ c.keys.length ∧ i = .int .i64 k ∧ Hid (∀ j (h : j < c.keys.length), j < k → (fun v => keyB v.k v.n v.s) c.keys[j] = true) ∧ Hid (Below (w.heap.size + 1) Z W)) (fun i _ => c.keys.length - (intOf i).toNat)
          case atStart => exact ⟨0, Nat.zero_le _, rfl, Lib.hid (fun j h h' => absurd h' (Nat.not_lt_zero _)), hb1⟩
          case round =>
            obtain ⟨k, hk, rfl, hall2, hb2⟩ := hrel
            have b2_0 : wr.cell? ⟨w.heap.size, 0, none⟩ = some (.string c.name) := HBX.out wr hb2.out 0
            have b2_1 : wr.cell? ⟨w.heap.size, 1, none⟩ = some (.int .i64 c.kind) := HBX.out wr hb2.out 1
            have b2_2 : wr.cell? ⟨w.heap.size, 2, none⟩ = some (.int .i64 c.len) := HBX.out wr hb2.out 2
            have b2_3 : wr.cell? ⟨w.heap.size, 3, none⟩ = some (.int .i64 c.regs) := HBX.out wr hb2.out 3
            have b2_4 : wr.cell? ⟨w.heap.size, 4, none⟩ = some (.slice ai c.ins.length ci) := HBX.out wr hb2.out 4
            have b2_5 : wr.cell? ⟨w.heap.size, 5, none⟩ = some (.slice ap c.pool.length cp) := HBX.out wr hb2.out 5
            have b2_6 : wr.cell? ⟨w.heap.size, 6, none⟩ = some (.slice ak c.keys.length ck) := HBX.out wr hb2.out 6
            have b2_7 : wr.cell? ⟨w.heap.size, 7, none⟩ = some (.slice ag c.guards.length cg) := HBX.out wr hb2.out 7
            have hlt_2 : w.heap.size < wr.heap.size := Nat.lt_of_lt_of_le (Nat.lt_of_lt_of_le (Nat.lt_succ_self _) HZ0.out) hb2.out.size
            by_cases hlt : k < c.keys.length
            · obtain ⟨bk, o, v0, v1, v2, ea, hbk, ⟨x0, x1, x2⟩, hway⟩ := ELK.out k hlt wr hb2.out
              have HW := Lib.hid hway
              clear hway
              subst ea
              rcases HW.out with ⟨hr, hc3⟩ | ⟨hr, hc3⟩
              · have HC3 := Lib.hid hc3
                have HN2 : Hid (∀ j (h : j < c.keys.length), j < k + 1 → (fun v => keyB v.k v.n v.s) c.keys[j] = true) := Lib.hid (fun j h h' => by
                  by_cases e : j = k
                  · subst e; exact hr
                  · exact hall2.out j h (by omega))
                clear hr hc3 HW hall2
                go_wp2_with (go_at_call 49; ((with_reducible refine (HC3.out _ hb2.out).mono ?_); rintro e w2 ⟨rfl, hbel⟩))
                have hbn : Below (w.heap.size + 1) Z w2 := hb2.out.trans (hbel.mono (Nat.le_trans HZ0.out hb2.out.size))
                go_roundw
                case rel => exact ⟨k + 1, by omega, by go_num, HN2, Lib.hid hbn⟩
                case measure => simp [intOf]; omega
              · have HC3 := Lib.hid hc3
                have HF : Hid ((c.keys.all fun v => keyB v.k v.n v.s) = false) := Lib.hid (all_no hlt hr)
                clear hr hc3 HW hall2
                go_wp2_with (go_at_call 49; ((with_reducible refine (HC3.out _ hb2.out).mono ?_); rintro e w2 ⟨rfl, hbel⟩))
                have hbn : Below (w.heap.size + 1) Z w2 := hb2.out.trans (hbel.mono (Nat.le_trans HZ0.out hb2.out.size))
                go_ret
                exact ⟨ret_bool (by rw [HA0.out, HA1.out, HF.out]; rfl), (HCW.out _ hbn).1⟩
            · have HA2 : Hid ((c.keys.all fun v => keyB v.k v.n v.s) = true) := Lib.hid (all_yes (fun j h => hall2.out j h (by omega)))
              clear hall2
              go_wp2
              go_loopw [6] (fun i W => ∃ k : Nat, k ≤ c.guards.length ∧ i = .int .i64 k ∧ Hid (∀ j (h : j < c.guards.length), j < k → (fun x => guB c x) c.guards[j] = true) ∧ Hid (Below (w.heap.size + 1) Z W)) (fun i _ => c.guards.length - (intOf i).toNat)
              case atStart => exact ⟨0, Nat.zero_le _, rfl, Lib.hid (fun j h h' => absurd h' (Nat.not_lt_zero _)), hb2⟩
              case round =>
                obtain ⟨k, hk, rfl, hall3, hb3⟩ := hrel
                have b3_0 : wr.cell? ⟨w.heap.size, 0, none⟩ = some (.string c.name) := HBX.out wr hb3.out 0
                have b3_1 : wr.cell? ⟨w.heap.size, 1, none⟩ = some (.int .i64 c.kind) := HBX.out wr hb3.out 1
                have b3_2 : wr.cell? ⟨w.heap.size, 2, none⟩ = some (.int .i64 c.len) := HBX.out wr hb3.out 2
                have b3_3 : wr.cell? ⟨w.heap.size, 3, none⟩ = some (.int .i64 c.regs) := HBX.out wr hb3.out 3
                have b3_4 : wr.cell? ⟨w.heap.size, 4, none⟩ = some (.slice ai c.ins.length ci) := HBX.out wr hb3.out 4
                have b3_5 : wr.cell? ⟨w.heap.size, 5, none⟩ = some (.slice ap c.pool.length cp) := HBX.out wr hb3.out 5
                have b3_6 : wr.cell? ⟨w.heap.size, 6, none⟩ = some (.slice ak c.keys.length ck) := HBX.out wr hb3.out 6
                have b3_7 : wr.cell? ⟨w.heap.size, 7, none⟩ = some (.slice ag c.guards.length cg) := HBX.out wr hb3.out 7
                have hlt_3 : w.heap.size < wr.heap.size := Nat.lt_of_lt_of_le (Nat.lt_of_lt_of_le (Nat.lt_succ_self _) HZ0.out) hb3.out.size
                by_cases hlt : k < c.guards.length
                · obtain ⟨bk, o, v0, v1, v2, v3, p1, p2, ea, hbk, ⟨x0, x1, x2, x3⟩, hgu, hc1, hc2⟩ := ELG.out k hlt wr hb3.out
                  have HGU := Lib.hid hgu
                  have HC1 := Lib.hid hc1
                  have HC2 := Lib.hid hc2
                  clear hgu hc1 hc2
                  subst ea
                  have cA : ∀ (ob : Obj) (q : Nat), (wr.alloc ob).cell? ⟨bk, q, none⟩ = wr.cell? ⟨bk, q, none⟩ := fun ob => cell_old wr ob hbk
                  have cB : ∀ (ob : Obj) (q : Nat), (wr.alloc ob).cell? ⟨w.heap.size, q, none⟩ = wr.cell? ⟨w.heap.size, q, none⟩ := fun ob => cell_old wr ob hlt_3
                  have hbA : Below (w.heap.size + 1) Z (wr.alloc (.cells #[.int .i64 v0, .int .i64 v1, .int .i64 v2, .int .i64 v3] 61)) := hb3.out.alloc (Nat.le_trans HZ0.out hb3.out.size) _
                  have HBA := Lib.hid hbA
                  have HSA : Hid (w.heap.size + 1 ≤ (wr.alloc (.cells #[.int .i64 v0, .int .i64 v1, .int .i64 v2, .int .i64 v3] 61)).heap.size) := Lib.hid (Nat.le_trans HZ0.out hbA.size)
                  clear hbA
                  by_cases hin : 0 ≤ v0 ∧ v0 < v1 ∧ v1 ≤ (c.ins.length : Int)
                  · have HD : Hid (decide (0 ≤ v0 ∧ v0 < v1 ∧ v1 ≤ (c.ins.length : Int)) = true) := Lib.hid (decide_eq_true hin)
                    obtain ⟨n0, n1, n2⟩ := hin
                    have m0 : decide (v0 < 0) = false := by simp; omega
                    have m1 : decide (v1 ≤ v0) = false := by simp; omega
                    have m2 : decide ((c.ins.length : Int) < v1) = false := by simp; omega
                    have hltA : w.heap.size < wr.heap.size + 1 := by omega
                    cases p1 with
                    | false =>
                      have HF : Hid ((c.guards.all fun x => guB c x) = false) := Lib.hid (all_no hlt (HGU.out.trans (by rw [HD.out]; rfl)))
                      clear hall3
                      go_wp2_with (go_at_call 50; ((with_reducible refine (HC1.out _ HBA.out).mono ?_); rintro e w2 ⟨rfl, hbel⟩; have HB2 := Lib.hid (HBA.out.trans (hbel.mono HSA.out)); have HS2 := Lib.hid (Nat.le_trans HSA.out hbel.size); obtain ⟨hcc, hff⟩ := bcell hbel; clear hbel))
                      go_ret
                      exact ⟨ret_bool (by rw [HA0.out, HA1.out, HA2.out, HF.out]; rfl), (HCW.out _ HB2.out).1⟩
                    | true =>
                      cases p2 with
                      | false =>
                        have HF : Hid ((c.guards.all fun x => guB c x) = false) := Lib.hid (all_no hlt (HGU.out.trans (by rw [HD.out]; rfl)))
                        clear hall3
                        go_wp2_with (go_at_call 50; ((with_reducible refine (HC1.out _ HBA.out).mono ?_); rintro e w2 ⟨rfl, hbel⟩; have HB2 := Lib.hid (HBA.out.trans (hbel.mono HSA.out)); have HS2 := Lib.hid (Nat.le_trans HSA.out hbel.size); obtain ⟨hcc, hff⟩ := bcell hbel; clear hbel))
                        go_wp2_with (go_at_call 50; ((with_reducible refine (HC2.out _ HB2.out).mono ?_); rintro e w3 ⟨rfl, hbel⟩; have HB3 := Lib.hid (HB2.out.trans (hbel.mono HS2.out)); clear hbel))
                        go_ret
                        exact ⟨ret_bool (by rw [HA0.out, HA1.out, HA2.out, HF.out]; rfl), (HCW.out _ HB3.out).1⟩
                      | true =>
                        have HN2 : Hid (∀ j (h : j < c.guards.length), j < k + 1 → (fun x => guB c x) c.guards[j] = true) := Lib.hid (fun j h h' => by
                          by_cases e : j = k
                          · subst e; exact HGU.out.trans (by rw [HD.out]; rfl)
                          · exact hall3.out j h (by omega))
                        clear hall3
                        go_wp2_with (go_at_call 50; ((with_reducible refine (HC1.out _ HBA.out).mono ?_); rintro e w2 ⟨rfl, hbel⟩; have HB2 := Lib.hid (HBA.out.trans (hbel.mono HSA.out)); have HS2 := Lib.hid (Nat.le_trans HSA.out hbel.size); obtain ⟨hcc, hff⟩ := bcell hbel; clear hbel))
                        go_wp2_with (go_at_call 50; ((with_reducible refine (HC2.out _ HB2.out).mono ?_); rintro e w3 ⟨rfl, hbel⟩; have HB3 := Lib.hid (HB2.out.trans (hbel.mono HS2.out)); clear hbel))
                        go_roundw
                        case rel => exact ⟨k + 1, by omega, by go_num, HN2, HB3⟩
                        case measure => simp [intOf]; omega
                  · have HD : Hid (decide (0 ≤ v0 ∧ v0 < v1 ∧ v1 ≤ (c.ins.length : Int)) = false) := Lib.hid (decide_eq_false hin)
                    have HF : Hid ((c.guards.all fun x => guB c x) = false) := Lib.hid (all_no hlt (HGU.out.trans (by rw [HD.out]; rfl)))
                    by_cases n0 : 0 ≤ v0
                    · have m0 : decide (v0 < 0) = false := by simp; omega
                      by_cases n1 : v0 < v1
                      · have m1 : decide (v1 ≤ v0) = false := by simp; omega
                        have m2 : (c.ins.length : Int) < v1 := by omega
                        clear hin hall3
                        go_wp2
                        go_ret
                        exact ⟨ret_bool (by rw [HA0.out, HA1.out, HA2.out, HF.out]; rfl), (HCW.out _ HBA.out).1⟩
                      · have m1 : v1 ≤ v0 := by omega
                        clear hin hall3 n1
                        go_wp2
                        go_ret
                        exact ⟨ret_bool (by rw [HA0.out, HA1.out, HA2.out, HF.out]; rfl), (HCW.out _ HBA.out).1⟩
                    · have m0 : v0 < 0 := by omega
                      clear hin hall3 n0
                      go_wp2
                      go_ret
                      exact ⟨ret_bool (by rw [HA0.out, HA1.out, HA2.out, HF.out]; rfl), (HCW.out _ HBA.out).1⟩
                · have HA3 : Hid ((c.guards.all fun x => guB c x) = true) := Lib.hid (all_yes (fun j h => hall3.out j h (by omega)))
                  clear hall3
                  go_wp2
                  go_ret
                  exact ⟨ret_bool (by rw [HA0.out, HA1.out, HA2.out, HA3.out]; rfl), (HCW.out _ hb3.out).1⟩

end Go.Proofs.YtnkidmnddkmilaaGreatDoor
