/-
  The closures that code.Right hands to every.
-/
import Derived.Test.YtnkidmnddkmilaaGreatDoorAeAsGu
import Derived.Test.YtnkidmnddkmilaaGreatDoorAeAsEvery
namespace Go.Proofs.YtnkidmnddkmilaaGreatDoor
open Go.RowKit
set_option maxRecDepth 100000

theorem clV_ret (fb : Nat) (k n : Int) (s : ByteArray) (hs : s.size ≤ 1499) (w : World) (hf : w.cell? ⟨fb, 0, none⟩ = some (.func (.func 31) #[] #[])) :
    Calls Tryz.prog 63 #[.agg #[.int .i64 k, .int .i64 n, .string s], .pointer (some ⟨fb, 0, none⟩)] w fun e w' => e = .returned (.bool (!(valB k n s))) ∧ Below w.heap.size w w' := by
  have hb0 : Below w.heap.size w (w.alloc (.cells #[.int .i64 k, .int .i64 n, .string s] 39)) := (Below.refl _ _).alloc (Nat.le_refl _) _
  have hlt := lt_of_cell hf
  have cA := fun ob => cell_old w ob hlt
  have hv := Lib.hid (val_ret k n s hs)
  generalize valB k n s = b at *
  go_enter Tryz.func63, Tryz.ntmps63
  go_wp2_with (go_at_call 31; refine (hv.out _).mono ?_; rintro e w1 ⟨rfl, hb1⟩)
  go_ret
  exact ⟨rfl, hb0.trans (hb1.mono hb0.size)⟩

theorem clK_ret (fb : Nat) (k n : Int) (s : ByteArray) (hs : s.size ≤ 1499) (w : World) (hf : w.cell? ⟨fb, 0, none⟩ = some (.func (.func 33) #[] #[])) :
    Calls Tryz.prog 65 #[.agg #[.int .i64 k, .int .i64 n, .string s], .pointer (some ⟨fb, 0, none⟩)] w fun e w' => e = .returned (.bool (!(keyB k n s))) ∧ Below w.heap.size w w' := by
  have hb0 : Below w.heap.size w (w.alloc (.cells #[.int .i64 k, .int .i64 n, .string s] 40)) := (Below.refl _ _).alloc (Nat.le_refl _) _
  have hlt := lt_of_cell hf
  have cA := fun ob => cell_old w ob hlt
  have hv := Lib.hid (keyRight k n s hs)
  generalize keyB k n s = b at *
  go_enter Tryz.func65, Tryz.ntmps65
  go_wp2_with (go_at_call 33; refine (hv.out _).mono ?_; rintro e w1 ⟨rfl, hb1⟩)
  go_ret
  exact ⟨rfl, hb0.trans (hb1.mono hb0.size)⟩

/-- a code's box -/
structure Box (w : World) (b : Nat) (c : CodeL) (vi vp vk vg : Value) : Prop where
  c0 : w.cell? ⟨b, 0, none⟩ = some (.string c.name)
  c1 : w.cell? ⟨b, 1, none⟩ = some (.int .i64 c.kind)
  c2 : w.cell? ⟨b, 2, none⟩ = some (.int .i64 c.len)
  c3 : w.cell? ⟨b, 3, none⟩ = some (.int .i64 c.regs)
  c4 : w.cell? ⟨b, 4, none⟩ = some vi
  c5 : w.cell? ⟨b, 5, none⟩ = some vp
  c6 : w.cell? ⟨b, 6, none⟩ = some vk
  c7 : w.cell? ⟨b, 7, none⟩ = some vg

theorem Box.below {w w' : World} {b B : Nat} {c : CodeL} {vi vp vk vg : Value} (h : Box w b c vi vp vk vg) (hb : Below B w w') (hlt : b < B) : Box w' b c vi vp vk vg := by
  have e : ∀ o, w'.cell? ⟨b, o, none⟩ = w.cell? ⟨b, o, none⟩ := fun o => hb.cell (p := ⟨b, o, none⟩) hlt
  exact ⟨(e 0).trans h.c0, (e 1).trans h.c1, (e 2).trans h.c2, (e 3).trans h.c3, (e 4).trans h.c4, (e 5).trans h.c5, (e 6).trans h.c6, (e 7).trans h.c7⟩

set_option maxHeartbeats 1000000 in
theorem clI_ret (fb cb : Nat) (c : CodeL) (B : Nat) (vi vp vk vg : Value) (hw : Few c) (h0 : 0 ≤ c.regs) (h1 : c.regs ≤ 4096) (x : InsL) (hx : okIns x) (w : World) (hB : B ≤ w.heap.size) (hc : CodeAt w B c vi vp vk vg) (hbx : Box w cb c vi vp vk vg)
    (hf : w.cell? ⟨fb, 0, none⟩ = some (.func (.func 35) #[] #[.pointer (some ⟨cb, 0, none⟩)])) :
    Calls Tryz.prog 68 #[.agg #[.int .i64 x.op, .int .i64 x.a, .int .i64 x.b, .int .i64 x.c], .pointer (some ⟨fb, 0, none⟩)] w fun e w' => e = .returned (.bool (!(insB c x))) ∧ Below w.heap.size w w' := by
  have hbl := fun w' (hw' : Below w.heap.size w w') => Lib.hid (ins_ret 36 69 44 (Or.inl ⟨rfl, rfl, rfl⟩) c B vi vp vk vg hw h0 h1 x.op x.a x.b x.c hx.2.1 hx.2.2.1 hx.2.2.2 w' (Nat.le_trans hB hw'.size) (hc.below (hw'.mono hB)))
  have HBL := Lib.hid hbl
  have hb0 : Below w.heap.size w (w.alloc (.cells #[.int .i64 x.op, .int .i64 x.a, .int .i64 x.b, .int .i64 x.c] 42)) := (Below.refl _ _).alloc (Nat.le_refl _) _
  have hb2 : Below w.heap.size w ((w.alloc (.cells #[.int .i64 x.op, .int .i64 x.a, .int .i64 x.b, .int .i64 x.c] 42)).alloc (.cells #[.int .i64 x.op, .int .i64 x.a, .int .i64 x.b, .int .i64 x.c] 42)) := hb0.alloc hb0.size _
  have HB2 := Lib.hid hb2
  obtain ⟨b0, b1, b2, b3, b4, b5, b6, b7⟩ := hbx
  have hl1 := lt_of_cell hf
  have hl2 := lt_of_cell b0
  have cA : ∀ (ob : Obj) (o : Nat), (w.alloc ob).cell? ⟨fb, o, none⟩ = w.cell? ⟨fb, o, none⟩ := fun ob => cell_old w ob hl1
  have cB : ∀ (ob : Obj) (o : Nat), (w.alloc ob).cell? ⟨cb, o, none⟩ = w.cell? ⟨cb, o, none⟩ := fun ob => cell_old w ob hl2
  have cC : ∀ (ob oc : Obj) (o : Nat), ((w.alloc ob).alloc oc).cell? ⟨cb, o, none⟩ = w.cell? ⟨cb, o, none⟩ := fun ob oc o => (cell_old (w.alloc ob) oc (by simp; omega) o).trans (cell_old w ob hl2 o)
  have e : insB c ⟨x.op, x.a, x.b, x.c⟩ = insB c x := rfl
  clear hbl hc hb0 hb2
  rw [e] at HBL
  generalize insB c x = b at *
  clear e
  go_enter Tryz.func68, Tryz.ntmps68
  go_wp2_with (first
    | (go_at_call 36; refine ((HBL.out _ HB2.out).out).mono ?_; rintro e w1 ⟨rfl, hb1⟩)
    | go_in)
  go_ret
  exact ⟨rfl, HB2.out.trans (hb1.mono HB2.out.size)⟩

set_option maxHeartbeats 1000000 in
theorem clG_ret (fb cb : Nat) (c : CodeL) (B : Nat) (vi vp vk vg : Value) (hw : Few c) (h0 : 0 ≤ c.regs) (h1 : c.regs ≤ 4096) (x : GuL) (hx : inI x.f ∧ inI x.t ∧ inI x.g ∧ inI x.r) (w : World) (hB : B ≤ w.heap.size) (hc : CodeAt w B c vi vp vk vg) (hbx : Box w cb c vi vp vk vg)
    (hf : w.cell? ⟨fb, 0, none⟩ = some (.func (.func 38) #[] #[.pointer (some ⟨cb, 0, none⟩)])) :
    Calls Tryz.prog 71 #[.agg #[.int .i64 x.f, .int .i64 x.t, .int .i64 x.g, .int .i64 x.r], .pointer (some ⟨fb, 0, none⟩)] w fun e w' => e = .returned (.bool (!(guB c x))) ∧ Below w.heap.size w w' := by
  have hbl := fun w' (hw' : Below w.heap.size w w') => Lib.hid (gu_ret c B vi vp vk vg hw h0 h1 x hx w' (Nat.le_trans hB hw'.size) (hc.below (hw'.mono hB)))
  have HBL := Lib.hid hbl
  have hb0 : Below w.heap.size w (w.alloc (.cells #[.int .i64 x.f, .int .i64 x.t, .int .i64 x.g, .int .i64 x.r] 61)) := (Below.refl _ _).alloc (Nat.le_refl _) _
  have hb2 : Below w.heap.size w ((w.alloc (.cells #[.int .i64 x.f, .int .i64 x.t, .int .i64 x.g, .int .i64 x.r] 61)).alloc (.cells #[.int .i64 x.f, .int .i64 x.t, .int .i64 x.g, .int .i64 x.r] 61)) := hb0.alloc hb0.size _
  have HB2 := Lib.hid hb2
  obtain ⟨b0, b1, b2, b3, b4, b5, b6, b7⟩ := hbx
  have hl1 := lt_of_cell hf
  have hl2 := lt_of_cell b0
  have cA : ∀ (ob : Obj) (o : Nat), (w.alloc ob).cell? ⟨fb, o, none⟩ = w.cell? ⟨fb, o, none⟩ := fun ob => cell_old w ob hl1
  have cB : ∀ (ob : Obj) (o : Nat), (w.alloc ob).cell? ⟨cb, o, none⟩ = w.cell? ⟨cb, o, none⟩ := fun ob => cell_old w ob hl2
  have cC : ∀ (ob oc : Obj) (o : Nat), ((w.alloc ob).alloc oc).cell? ⟨cb, o, none⟩ = w.cell? ⟨cb, o, none⟩ := fun ob oc o => (cell_old (w.alloc ob) oc (by simp; omega) o).trans (cell_old w ob hl2 o)
  clear hbl hc hb0 hb2
  generalize guB c x = b at *
  go_enter Tryz.func71, Tryz.ntmps71
  go_wp2_with (first
    | (go_at_call 39; refine ((HBL.out _ HB2.out).out).mono ?_; rintro e w1 ⟨rfl, hb1⟩)
    | go_in)
  go_ret
  exact ⟨rfl, HB2.out.trans (hb1.mono HB2.out.size)⟩

/-- all of a code's constants, keys, instructions, handlers -/
theorem evV_ret (c : CodeL) (B : Nat) (vi vp vk vg : Value) (hw : Few c) (w : World) (hB : B ≤ w.heap.size) (hc : CodeAt w B c vi vp vk vg) :
    Calls Tryz.prog 30 #[vp, .func (.func 31) #[] #[]] w fun e w' => e = .returned (.bool (c.pool.all fun v => valB v.k v.n v.s)) ∧ Below w.heap.size w w' := by
  refine everyV_ret c.pool _ B vp _ hw.pool w hB hc.pool (fun x hx w' hb => clV_ret _ _ _ _ (hw.vs x hx) w' ?_) rfl rfl
  rw [hb.cell (p := ⟨w.heap.size, 0, none⟩) (by show w.heap.size < _; omega), Lib.cell_of_heap (heap_alloc_new w _)]
  rfl

theorem evK_ret (c : CodeL) (B : Nat) (vi vp vk vg : Value) (hw : Few c) (w : World) (hB : B ≤ w.heap.size) (hc : CodeAt w B c vi vp vk vg) :
    Calls Tryz.prog 32 #[vk, .func (.func 33) #[] #[]] w fun e w' => e = .returned (.bool (c.keys.all fun v => keyB v.k v.n v.s)) ∧ Below w.heap.size w w' := by
  refine everyK_ret c.keys _ B vk _ hw.keys w hB hc.keys (fun x hx w' hb => clK_ret _ _ _ _ (hw.ks x hx) w' ?_) rfl rfl
  rw [hb.cell (p := ⟨w.heap.size, 0, none⟩) (by show w.heap.size < _; omega), Lib.cell_of_heap (heap_alloc_new w _)]
  rfl

theorem evI_ret (cb : Nat) (c : CodeL) (B : Nat) (vi vp vk vg : Value) (hw : Few c) (hn : Nums c) (h0 : 0 ≤ c.regs) (h1 : c.regs ≤ 4096) (w : World) (hB : B ≤ w.heap.size) (hc : CodeAt w B c vi vp vk vg) (hbx : Box w cb c vi vp vk vg) :
    Calls Tryz.prog 34 #[vi, .func (.func 35) #[] #[.pointer (some ⟨cb, 0, none⟩)]] w fun e w' => e = .returned (.bool (c.ins.all fun x => insB c x)) ∧ Below w.heap.size w w' := by
  have hl := lt_of_cell hbx.c0
  have hb0 : ∀ ob, Below w.heap.size w (w.alloc ob) := fun ob => (Below.refl _ _).alloc (Nat.le_refl _) _
  refine everyI_ret c.ins _ B vi _ hw.ins w hB hc.ins (fun x hx w' hb => ?_) rfl rfl
  have hb1 : Below w.heap.size w w' := (hb0 _).trans (hb.mono (by omega))
  refine clI_ret _ cb c B vi vp vk vg hw h0 h1 x (hn.ins x hx) w' (Nat.le_trans hB hb1.size) (hc.below (hb1.mono hB)) (hbx.below hb1 hl) ?_
  rw [hb.cell (p := ⟨w.heap.size, 0, none⟩) (by show w.heap.size < _; omega), Lib.cell_of_heap (heap_alloc_new w _)]
  rfl

theorem evG_ret (cb : Nat) (c : CodeL) (B : Nat) (vi vp vk vg : Value) (hw : Few c) (hn : Nums c) (h0 : 0 ≤ c.regs) (h1 : c.regs ≤ 4096) (w : World) (hB : B ≤ w.heap.size) (hc : CodeAt w B c vi vp vk vg) (hbx : Box w cb c vi vp vk vg) :
    Calls Tryz.prog 37 #[vg, .func (.func 38) #[] #[.pointer (some ⟨cb, 0, none⟩)]] w fun e w' => e = .returned (.bool (c.guards.all fun x => guB c x)) ∧ Below w.heap.size w w' := by
  have hl := lt_of_cell hbx.c0
  have hb0 : ∀ ob, Below w.heap.size w (w.alloc ob) := fun ob => (Below.refl _ _).alloc (Nat.le_refl _) _
  refine everyG_ret c.guards _ B vg _ hw.guards w hB hc.guards (fun x hx w' hb => ?_) rfl rfl
  have hb1 : Below w.heap.size w w' := (hb0 _).trans (hb.mono (by omega))
  refine clG_ret _ cb c B vi vp vk vg hw h0 h1 x (hn.guards x hx) w' (Nat.le_trans hB hb1.size) (hc.below (hb1.mono hB)) (hbx.below hb1 hl) ?_
  rw [hb.cell (p := ⟨w.heap.size, 0, none⟩) (by show w.heap.size < _; omega), Lib.cell_of_heap (heap_alloc_new w _)]
  rfl

end Go.Proofs.YtnkidmnddkmilaaGreatDoor
