/-
  The reference's text of a code.
-/
import Derived.Test.YtnkidmnddkmilaaGreatDoorAeAsText
namespace Go.Proofs.YtnkidmnddkmilaaGreatDoor
open Go.RowKit
set_option maxRecDepth 100000

/-- the state of the reference's walk: its code's box -/
structure RX (w0 : World) (bx : Array Value) (w : World) : Prop where
  bel : Below w0.heap.size w0 w
  box : w.heap[w0.heap.size]? = some (.cells bx 36 (0, 0))

theorem RX.lt {w0 w : World} {bx : Array Value} (h : RX w0 bx w) : w0.heap.size < w.heap.size := by
  have := h.box
  rcases Nat.lt_or_ge w0.heap.size w.heap.size with h' | h'
  · exact h'
  · simp [Array.getElem?_eq_none h'] at this

theorem RX.below {w0 w w' : World} {bx : Array Value} (h : RX w0 bx w) (hb : Below w.heap.size w w') : RX w0 bx w' :=
  ⟨h.bel.trans (hb.mono h.bel.size), by rw [hb.block _ h.lt]; exact h.box⟩

theorem RX.call {w0 w : World} {bx : Array Value} (h : RX w0 bx w) {f : FuncId} {args : Array Value} {R : Ending} (hc : Calls Tryz.prog f args w fun e w' => e = R ∧ Below w.heap.size w w') :
    Calls Tryz.prog f args w fun e w' => e = R ∧ Hid (RX w0 bx w') :=
  hc.mono fun _ _ he => ⟨he.1, Lib.hid (h.below he.2)⟩

theorem RX.G {w0 w : World} {bx : Array Value} (h : RX w0 bx w) (hG : G w0) : G w := hG.below h.bel hG.size

theorem rx8 {w0 w : World} {bx : Array Value} (c : CodeL) (vi vp vk vg : Value) (hb : codeA ⟨c, vi, vp, vk, vg⟩ = bx) (h : RX w0 bx w) :
    w.cell? ⟨w0.heap.size, 0, none⟩ = some (.string c.name) ∧ w.cell? ⟨w0.heap.size, 1, none⟩ = some (.int .i64 c.kind) ∧ w.cell? ⟨w0.heap.size, 2, none⟩ = some (.int .i64 c.len) ∧ w.cell? ⟨w0.heap.size, 3, none⟩ = some (.int .i64 c.regs) ∧
    w.cell? ⟨w0.heap.size, 4, none⟩ = some vi ∧ w.cell? ⟨w0.heap.size, 5, none⟩ = some vp ∧ w.cell? ⟨w0.heap.size, 6, none⟩ = some vk ∧ w.cell? ⟨w0.heap.size, 7, none⟩ = some vg := by
  subst hb
  have e := fun o => Lib.cell_of_heap h.box o
  exact ⟨e 0, e 1, e 2, e 3, e 4, e 5, e 6, e 7⟩

set_option maxHeartbeats 4000000 in
theorem rone_ret (c : CodeL) (B : Nat) (ai : Option Addr) (ci : Nat) (ap : Option Addr) (cp : Nat) (ak : Option Addr) (ck : Nat) (ag : Option Addr) (cg : Nat) (hfe : Few c) (hnu : Nums c) (hr : rightB c = true) (w : World) (hG : G w) (hB : B ≤ w.heap.size)
    (hc : CodeAt w B c (.slice ai c.ins.length ci) (.slice ap c.pool.length cp) (.slice ak c.keys.length ck) (.slice ag c.guards.length cg)) :
    Calls Tryz.prog 22 #[.agg #[.string c.name, .int .i64 c.kind, .int .i64 c.len, .int .i64 c.regs, .slice ai c.ins.length ci, .slice ap c.pool.length cp, .slice ak c.keys.length ck, .slice ag c.guards.length cg]] w fun e w' => e = .returned (.string (bs (codeT c))) ∧ Below w.heap.size w w' := by
  have HPA := Lib.hid (right_parts hr)
  have HX : Hid (RX w (codeA ⟨c, .slice ai c.ins.length ci, .slice ap c.pool.length cp, .slice ak c.keys.length ck, .slice ag c.guards.length cg⟩) (w.alloc (.cells (codeA ⟨c, .slice ai c.ins.length ci, .slice ap c.pool.length cp, .slice ak c.keys.length ck, .slice ag c.guards.length cg⟩) 36))) :=
    Lib.hid ⟨(Below.refl _ _).alloc (Nat.le_refl _) _, heap_alloc_new w _⟩
  have HCB : Hid (∀ W, Hid (Below w.heap.size w W) → Hid (CodeAt W B c (.slice ai c.ins.length ci) (.slice ap c.pool.length cp) (.slice ak c.keys.length ck) (.slice ag c.guards.length cg))) := Lib.hid fun W h => Lib.hid (hc.below (h.out.mono hB))
  clear hc hr
  generalize hbx : codeA ⟨c, .slice ai c.ins.length ci, .slice ap c.pool.length cp, .slice ak c.keys.length ck, .slice ag c.guards.length cg⟩ = bx at HX
  have HBX := Lib.hid hbx
  clear hbx
  have HHD : Hid (∀ W, Hid (RX w bx W) → Calls Tryz.prog 51 #[.agg #[.string c.name, .int .i64 c.kind, .int .i64 c.len, .int .i64 c.regs, .slice ai c.ins.length ci, .slice ap c.pool.length cp, .slice ak c.keys.length ck, .slice ag c.guards.length cg]] W fun e w' => e = .returned (.string (bs (headL c.name.data.toList c.kind c.len c.regs))) ∧ Hid (RX w bx w')) :=
    Lib.hid fun W h => h.out.call (head_ret c.name c.kind c.len c.regs _ _ _ _ hfe.name hnu.kind hnu.len hnu.regs W (h.out.G hG))
  have HHL := Lib.hid (head_len c hfe hnu)
  have hsh : ¬ (9223372036854775807 < (bs (headL c.name.data.toList c.kind c.len c.regs)).size + 1) := by have := HHL.out; rw [bs_size]; omega
  have HX' := Lib.hid HX.out
  rw [← HBX.out] at HX'
  go_enter Tryz.func22, Tryz.ntmps22
  go_wp2_with (go_at_call 51; refine (HHD.out _ (Lib.hid (by have := HX.out; rw [← HBX.out] at this ⊢; exact this))).mono ?_; rintro e w1 ⟨rfl, HX1⟩; obtain ⟨r0, r1, r2, r3, r4, r5, r6, r7⟩ := rx8 c _ _ _ _ HBX.out HX1.out)
  -- LOOPS
  clear HHD hsh HX HX' r0 r1 r2 r3 r4 r5 r6 r7
  have HB0 : Hid ((headS c).length ≤ 10000) := Lib.hid (by have := headS_len c hfe hnu; omega)
  have HS0 : Hid (Value.string (bs (headL c.name.data.toList c.kind c.len c.regs) ++ { data := #[10] }) = .string (bs (headS c))) := Lib.hid (congrArg Value.string (bs_append _ [10]))
  obtain ⟨M0, hM0⟩ : ∃ M0, M0 = headS c := ⟨_, rfl⟩
  rw [← hM0] at HB0 HS0
  have HE0 := Lib.hid hM0
  clear hM0
  have HXs := HX1
  clear HX1
  go_loopw [3, 4] (fun s i W => ∃ m : Nat, m ≤ c.pool.length ∧ i = .int .i64 m ∧ Hid (s = .string (bs (M0 ++ (c.pool.take m).flatMap poolS))) ∧ Hid (RX w bx W)) (fun _ i _ => c.pool.length - (intOf i).toNat)
  case atStart => exact ⟨0, Nat.zero_le _, rfl, Lib.hid (by rw [List.take_zero, List.flatMap_nil, List.append_nil]; first | done | exact HS0.out), HXs⟩
  case round =>
    obtain ⟨m, hm, rfl, hs, HXm⟩ := hrel
    clear HXs HS0
    have HLT := Lib.hid (poolT_len c hfe hnu m)
    obtain rfl := hs.out
    clear hs
    obtain ⟨t0, t1, t2, t3, t4, t5, t6, t7⟩ := rx8 c _ _ _ _ HBX.out HXm.out
    by_cases hml : m < c.pool.length
    · have hx := List.getElem?_eq_getElem hml
      obtain ⟨hxx, pb, po, ea, hpb, hcc⟩ := (HCB.out _ (Lib.hid HXm.out.bel)).out.pool.at (k := m) (x := valC c.pool[m]) (by rw [List.getElem?_map, hx]; rfl)
      clear hxx
      subst ea
      have HTm : Hid ((c.pool.take (m + 1)).flatMap poolS = (c.pool.take m).flatMap poolS ++ poolS c.pool[m]) := Lib.hid (take_flat _ _ m hml)
      have hk0 := HPA.out.1 _ (List.getElem_mem hml)
      have hk1 := hnu.pool _ (List.getElem_mem hml)
      have hk2 := hfe.vs _ (List.getElem_mem hml)
      clear hx
      generalize c.pool[m] = x at *
      have p0 : wr.cell? ⟨pb, po + m * 3, none⟩ = some (.int .i64 x.k) := hcc 0 _ rfl
      have p1 : wr.cell? ⟨pb, po + m * 3 + 1, none⟩ = some (.int .i64 x.n) := hcc 1 _ rfl
      have p2 : wr.cell? ⟨pb, po + m * 3 + 2, none⟩ = some (.string x.s) := hcc 2 _ rfl
      clear hcc
      have hsz := const_len x hk1.2 hk2
      have hlf := hfe.pool
      generalize (c.pool.take m).flatMap poolS = T1 at *
      have HM : Hid ((bs (M0 ++ T1)).size ≤ 10000 + 6010 * 1499) := Lib.hid (by have := HB0.out; have := HLT.out; rw [bs_size, List.length_append]; omega)
      have HCON : Hid (∀ W, Hid (RX w bx W) → Calls Tryz.prog 52 #[.agg #[.int .i64 x.k, .int .i64 x.n, .string x.s]] W fun e w' => e = .returned (.string (bs (constL x))) ∧ Hid (RX w bx w')) := Lib.hid fun W h => h.out.call (rconstant_ret x.k x.n x.s hk0 hk1.2 hk2 W)
      have hzz : (bs (constL x)).size ≤ 6000 := by rw [bs_size]; exact hsz
      clear hsz
      have l0 : ¬ (9223372036854775807 < (bs (M0 ++ T1)).size + 6) := by have := HM.out; omega
      have l1 : ¬ (9223372036854775807 < (bs (M0 ++ T1)).size + 6 + (bs (constL x)).size) := by have := HM.out; omega
      have l2 : ¬ (9223372036854775807 < (bs (M0 ++ T1)).size + 6 + (bs (constL x)).size + 1) := by have := HM.out; omega
      have HQ : Hid (Value.string (bs (M0 ++ T1) ++ bs [99, 111, 110, 115, 116, 32] ++ bs (constL x) ++ bs [10]) = .string (bs (M0 ++ (T1 ++ poolS x)))) := Lib.hid (congrArg Value.string (by simp only [bs_append]; congr 1; unfold poolS; simp only [List.append_assoc]))
      go_wp2_with (go_at_call 52; refine (HCON.out _ HXm).mono ?_; rintro e w4 ⟨rfl, HX4⟩)
      go_roundw
      case rel => exact ⟨m + 1, by omega, by go_num, Lib.hid (by rw [HTm.out]; exact HQ.out), HX4⟩
      case measure => simp [intOf]; omega
    · have hme : m = c.pool.length := by omega
      have HTA : Hid ((c.pool.take m).flatMap poolS = c.pool.flatMap poolS) := Lib.hid (by rw [hme, List.take_length])
      have HB1 : Hid ((M0 ++ c.pool.flatMap poolS).length ≤ 9110000) := Lib.hid (by have := HB0.out; have := HLT.out; rw [HTA.out] at this; rw [List.length_append]; omega)
      rw [HTA.out]
      clear hme HTA HLT
      obtain ⟨M1, hM1⟩ : ∃ M1, M1 = M0 ++ c.pool.flatMap poolS := ⟨_, rfl⟩
      rw [← hM1] at HB1 ⊢
      have HE1 := Lib.hid hM1
      clear hM1
      have HS1 : Hid (Value.string (bs M1) = .string (bs M1)) := Lib.hid rfl
      go_wp2_with fail
      obtain ⟨wz, hwz⟩ : ∃ (wz : World), wz = wr := ⟨_, rfl⟩
      have HXs := HXm
      clear HXm t0 t1 t2 t3 t4 t5 t6 t7
      subst hwz
      go_loopw [3, 5] (fun s i W => ∃ m : Nat, m ≤ c.keys.length ∧ i = .int .i64 m ∧ Hid (s = .string (bs (M1 ++ (c.keys.take m).flatMap keyS))) ∧ Hid (RX w bx W)) (fun _ i _ => c.keys.length - (intOf i).toNat)
      case atStart => exact ⟨0, Nat.zero_le _, rfl, Lib.hid (by rw [List.take_zero, List.flatMap_nil, List.append_nil]; first | done | exact HS1.out), HXs⟩
      case round =>
        obtain ⟨m, hm, rfl, hs, HXm⟩ := hrel
        clear HXs HS1
        have HLT := Lib.hid (keysT_len c hfe hnu m)
        obtain rfl := hs.out
        clear hs
        obtain ⟨t0, t1, t2, t3, t4, t5, t6, t7⟩ := rx8 c _ _ _ _ HBX.out HXm.out
        by_cases hml : m < c.keys.length
        · have hx := List.getElem?_eq_getElem hml
          obtain ⟨hxx, pb, po, ea, hpb, hcc⟩ := (HCB.out _ (Lib.hid HXm.out.bel)).out.keys.at (k := m) (x := keyC c.keys[m]) (by rw [List.getElem?_map, hx]; rfl)
          clear hxx
          subst ea
          have HTm : Hid ((c.keys.take (m + 1)).flatMap keyS = (c.keys.take m).flatMap keyS ++ keyS c.keys[m]) := Lib.hid (take_flat _ _ m hml)
          have hk0 := HPA.out.2.1 _ (List.getElem_mem hml)
          have hk1 := hnu.keys _ (List.getElem_mem hml)
          have hk2 := hfe.ks _ (List.getElem_mem hml)
          clear hx
          generalize c.keys[m] = x at *
          have p0 : wr.cell? ⟨pb, po + m * 3, none⟩ = some (.int .i64 x.k) := hcc 0 _ rfl
          have p1 : wr.cell? ⟨pb, po + m * 3 + 1, none⟩ = some (.int .i64 x.n) := hcc 1 _ rfl
          have p2 : wr.cell? ⟨pb, po + m * 3 + 2, none⟩ = some (.string x.s) := hcc 2 _ rfl
          clear hcc
          have hsz := key_len x hk1.2 hk2
          have hlf := hfe.keys
          generalize (c.keys.take m).flatMap keyS = T1 at *
          have HM : Hid ((bs (M1 ++ T1)).size ≤ 9110000 + 6010 * 1499) := Lib.hid (by have := HB1.out; have := HLT.out; rw [bs_size, List.length_append]; omega)
          have HCON : Hid (∀ W, Hid (RX w bx W) → Calls Tryz.prog 53 #[.agg #[.int .i64 x.k, .int .i64 x.n, .string x.s]] W fun e w' => e = .returned (.string (bs (keyL x))) ∧ Hid (RX w bx w')) := Lib.hid fun W h => h.out.call (rkey_ret x.k x.n x.s hk0 hk1.2 hk2 W)
          have hzz : (bs (keyL x)).size ≤ 6000 := by rw [bs_size]; exact hsz
          clear hsz
          have l0 : ¬ (9223372036854775807 < (bs (M1 ++ T1)).size + 4) := by have := HM.out; omega
          have l1 : ¬ (9223372036854775807 < (bs (M1 ++ T1)).size + 4 + (bs (keyL x)).size) := by have := HM.out; omega
          have l2 : ¬ (9223372036854775807 < (bs (M1 ++ T1)).size + 4 + (bs (keyL x)).size + 1) := by have := HM.out; omega
          have HQ : Hid (Value.string (bs (M1 ++ T1) ++ bs [107, 101, 121, 32] ++ bs (keyL x) ++ bs [10]) = .string (bs (M1 ++ (T1 ++ keyS x)))) := Lib.hid (congrArg Value.string (by simp only [bs_append]; congr 1; unfold keyS; simp only [List.append_assoc]))
          go_wp2_with (go_at_call 53; refine (HCON.out _ HXm).mono ?_; rintro e w4 ⟨rfl, HX4⟩)
          go_roundw
          case rel => exact ⟨m + 1, by omega, by go_num, Lib.hid (by rw [HTm.out]; exact HQ.out), HX4⟩
          case measure => simp [intOf]; omega
        · have hme : m = c.keys.length := by omega
          have HTA : Hid ((c.keys.take m).flatMap keyS = c.keys.flatMap keyS) := Lib.hid (by rw [hme, List.take_length])
          have HB2 : Hid ((M1 ++ c.keys.flatMap keyS).length ≤ 18210000) := Lib.hid (by have := HB1.out; have := HLT.out; rw [HTA.out] at this; rw [List.length_append]; omega)
          rw [HTA.out]
          clear hme HTA HLT
          obtain ⟨M2, hM2⟩ : ∃ M2, M2 = M1 ++ c.keys.flatMap keyS := ⟨_, rfl⟩
          rw [← hM2] at HB2 ⊢
          have HE2 := Lib.hid hM2
          clear hM2
          have HS2 : Hid (Value.string (bs M2) = .string (bs M2)) := Lib.hid rfl
          go_wp2_with fail
          obtain ⟨wz, hwz⟩ : ∃ (wz : World), wz = wr := ⟨_, rfl⟩
          have HXs := HXm
          clear HXm t0 t1 t2 t3 t4 t5 t6 t7
          subst hwz
          go_loopw [3, 6] (fun s i W => ∃ m : Nat, m ≤ c.ins.length ∧ i = .int .i64 m ∧ Hid (s = .string (bs (M2 ++ (c.ins.take m).flatMap insS))) ∧ Hid (RX w bx W)) (fun _ i _ => c.ins.length - (intOf i).toNat)
          case atStart => exact ⟨0, Nat.zero_le _, rfl, Lib.hid (by rw [List.take_zero, List.flatMap_nil, List.append_nil]; first | done | exact HS2.out), HXs⟩
          case round =>
            obtain ⟨m, hm, rfl, hs, HXm⟩ := hrel
            clear HXs HS2
            have HLT := Lib.hid (insT_len c hfe hnu m)
            obtain rfl := hs.out
            clear hs
            obtain ⟨t0, t1, t2, t3, t4, t5, t6, t7⟩ := rx8 c _ _ _ _ HBX.out HXm.out
            by_cases hml : m < c.ins.length
            · have hx := List.getElem?_eq_getElem hml
              obtain ⟨hxx, pb, po, ea, hpb, hcc⟩ := (HCB.out _ (Lib.hid HXm.out.bel)).out.ins.at (k := m) (x := insC c.ins[m]) (by rw [List.getElem?_map, hx]; rfl)
              clear hxx
              subst ea
              have HTm : Hid ((c.ins.take (m + 1)).flatMap insS = (c.ins.take m).flatMap insS ++ insS c.ins[m]) := Lib.hid (take_flat _ _ m hml)
              have hk0 := HPA.out.2.2 _ (List.getElem_mem hml)
              have hk1 := hnu.ins _ (List.getElem_mem hml)
              clear hx
              generalize c.ins[m] = x at *
              have p0 : wr.cell? ⟨pb, po + m * 4, none⟩ = some (.int .i64 x.op) := hcc 0 _ rfl
              have p1 : wr.cell? ⟨pb, po + m * 4 + 1, none⟩ = some (.int .i64 x.a) := hcc 1 _ rfl
              have p2 : wr.cell? ⟨pb, po + m * 4 + 2, none⟩ = some (.int .i64 x.b) := hcc 2 _ rfl
              have p3 : wr.cell? ⟨pb, po + m * 4 + 3, none⟩ = some (.int .i64 x.c) := hcc 3 _ rfl
              clear hcc
              have hsz := Nat.le_trans (line_len x hk1.2.1 hk1.2.2.1 hk1.2.2.2) (show 100 ≤ 6000 by decide)
              have hlf := hfe.ins
              generalize (c.ins.take m).flatMap insS = T1 at *
              have HM : Hid ((bs (M2 ++ T1)).size ≤ 18210000 + 6010 * 1499) := Lib.hid (by have := HB2.out; have := HLT.out; rw [bs_size, List.length_append]; omega)
              have HCON : Hid (∀ W, Hid (RX w bx W) → Calls Tryz.prog 24 #[.agg #[.int .i64 x.op, .int .i64 x.a, .int .i64 x.b, .int .i64 x.c]] W fun e w' => e = .returned (.string (bs (lineL x))) ∧ Hid (RX w bx w')) := Lib.hid fun W h => h.out.call (rins_ret x.op x.a x.b x.c hk0.1 hk0.2 hk1.2.1 hk1.2.2.1 hk1.2.2.2 W)
              have hzz : (bs (lineL x)).size ≤ 6000 := by rw [bs_size]; exact hsz
              clear hsz
              have l0 : ¬ (9223372036854775807 < (bs (M2 ++ T1)).size + (bs (lineL x)).size) := by have := HM.out; omega
              have l2 : ¬ (9223372036854775807 < (bs (M2 ++ T1)).size + (bs (lineL x)).size + 1) := by have := HM.out; omega
              have HQ : Hid (Value.string (bs (M2 ++ T1) ++ bs (lineL x) ++ bs [10]) = .string (bs (M2 ++ (T1 ++ insS x)))) := Lib.hid (congrArg Value.string (by simp only [bs_append]; congr 1; unfold insS; simp only [List.append_assoc]))
              go_wp2_with (go_at_call 24; refine (HCON.out _ HXm).mono ?_; rintro e w4 ⟨rfl, HX4⟩)
              go_roundw
              case rel => exact ⟨m + 1, by omega, by go_num, Lib.hid (by rw [HTm.out]; exact HQ.out), HX4⟩
              case measure => simp [intOf]; omega
            · have hme : m = c.ins.length := by omega
              have HTA : Hid ((c.ins.take m).flatMap insS = c.ins.flatMap insS) := Lib.hid (by rw [hme, List.take_length])
              have HB3 : Hid ((M2 ++ c.ins.flatMap insS).length ≤ 27310000) := Lib.hid (by have := HB2.out; have := HLT.out; rw [HTA.out] at this; rw [List.length_append]; omega)
              rw [HTA.out]
              clear hme HTA HLT
              obtain ⟨M3, hM3⟩ : ∃ M3, M3 = M2 ++ c.ins.flatMap insS := ⟨_, rfl⟩
              rw [← hM3] at HB3 ⊢
              have HE3 := Lib.hid hM3
              clear hM3
              have HS3 : Hid (Value.string (bs M3) = .string (bs M3)) := Lib.hid rfl
              go_wp2_with fail
              obtain ⟨wz, hwz⟩ : ∃ (wz : World), wz = wr := ⟨_, rfl⟩
              have HXs := HXm
              clear HXm t0 t1 t2 t3 t4 t5 t6 t7
              subst hwz
              go_loopw [3, 7] (fun s i W => ∃ m : Nat, m ≤ c.guards.length ∧ i = .int .i64 m ∧ Hid (s = .string (bs (M3 ++ (c.guards.take m).flatMap guS))) ∧ Hid (RX w bx W)) (fun _ i _ => c.guards.length - (intOf i).toNat)
              case atStart => exact ⟨0, Nat.zero_le _, rfl, Lib.hid (by rw [List.take_zero, List.flatMap_nil, List.append_nil]; first | done | exact HS3.out), HXs⟩
              case round =>
                obtain ⟨m, hm, rfl, hs, HXm⟩ := hrel
                clear HXs HS3
                have HLT := Lib.hid (gusT_len c hfe hnu m)
                obtain rfl := hs.out
                clear hs
                obtain ⟨t0, t1, t2, t3, t4, t5, t6, t7⟩ := rx8 c _ _ _ _ HBX.out HXm.out
                by_cases hml : m < c.guards.length
                · have hx := List.getElem?_eq_getElem hml
                  obtain ⟨hxx, pb, po, ea, hpb, hcc⟩ := (HCB.out _ (Lib.hid HXm.out.bel)).out.guards.at (k := m) (x := guC c.guards[m]) (by rw [List.getElem?_map, hx]; rfl)
                  clear hxx
                  subst ea
                  have HTm : Hid ((c.guards.take (m + 1)).flatMap guS = (c.guards.take m).flatMap guS ++ guS c.guards[m]) := Lib.hid (take_flat _ _ m hml)
                  have hk1 := hnu.guards _ (List.getElem_mem hml)
                  clear hx
                  generalize c.guards[m] = x at *
                  have p0 : wr.cell? ⟨pb, po + m * 4, none⟩ = some (.int .i64 x.f) := hcc 0 _ rfl
                  have p1 : wr.cell? ⟨pb, po + m * 4 + 1, none⟩ = some (.int .i64 x.t) := hcc 1 _ rfl
                  have p2 : wr.cell? ⟨pb, po + m * 4 + 2, none⟩ = some (.int .i64 x.g) := hcc 2 _ rfl
                  have p3 : wr.cell? ⟨pb, po + m * 4 + 3, none⟩ = some (.int .i64 x.r) := hcc 3 _ rfl
                  clear hcc
                  have hsz := guard_len x hk1
                  have hlf := hfe.guards
                  generalize (c.guards.take m).flatMap guS = T1 at *
                  have HM : Hid ((bs (M3 ++ T1)).size ≤ 27310000 + 6010 * 1499) := Lib.hid (by have := HB3.out; have := HLT.out; rw [bs_size, List.length_append]; omega)
                  have HCON : Hid (∀ W, Hid (RX w bx W) → Calls Tryz.prog 54 #[.agg #[.int .i64 x.f, .int .i64 x.t, .int .i64 x.g, .int .i64 x.r]] W fun e w' => e = .returned (.string (bs (guardL x.f x.t x.g x.r))) ∧ Hid (RX w bx w')) := Lib.hid fun W h => h.out.call (guard_ret x.f x.t x.g x.r hk1.1 hk1.2.1 hk1.2.2.1 hk1.2.2.2 W (h.out.G hG))
                  have hzz : (bs (guardL x.f x.t x.g x.r)).size ≤ 6000 := by rw [bs_size]; exact hsz
                  clear hsz
                  have l0 : ¬ (9223372036854775807 < (bs (M3 ++ T1)).size + (bs (guardL x.f x.t x.g x.r)).size) := by have := HM.out; omega
                  have l2 : ¬ (9223372036854775807 < (bs (M3 ++ T1)).size + (bs (guardL x.f x.t x.g x.r)).size + 1) := by have := HM.out; omega
                  have HQ : Hid (Value.string (bs (M3 ++ T1) ++ bs (guardL x.f x.t x.g x.r) ++ bs [10]) = .string (bs (M3 ++ (T1 ++ guS x)))) := Lib.hid (congrArg Value.string (by simp only [bs_append]; congr 1; unfold guS; simp only [List.append_assoc]))
                  go_wp2_with (go_at_call 54; refine (HCON.out _ HXm).mono ?_; rintro e w4 ⟨rfl, HX4⟩)
                  go_roundw
                  case rel => exact ⟨m + 1, by omega, by go_num, Lib.hid (by rw [HTm.out]; exact HQ.out), HX4⟩
                  case measure => simp [intOf]; omega
                · have hme : m = c.guards.length := by omega
                  have HTA : Hid ((c.guards.take m).flatMap guS = c.guards.flatMap guS) := Lib.hid (by rw [hme, List.take_length])
                  have HB4 : Hid ((M3 ++ c.guards.flatMap guS).length ≤ 36410000) := Lib.hid (by have := HB3.out; have := HLT.out; rw [HTA.out] at this; rw [List.length_append]; omega)
                  rw [HTA.out]
                  clear hme HTA HLT
                  obtain ⟨M4, hM4⟩ : ∃ M4, M4 = M3 ++ c.guards.flatMap guS := ⟨_, rfl⟩
                  rw [← hM4] at HB4 ⊢
                  have HE4 := Lib.hid hM4
                  clear hM4
                  have l9 : ¬ (9223372036854775807 < (bs M4).size + 4) := by have := HB4.out; rw [bs_size]; omega
                  have HQ : Hid (Value.string (bs M4 ++ bs [101, 110, 100, 10]) = .string (bs (codeT c))) := Lib.hid (congrArg Value.string (by
                    rw [bs_append]
                    rw [HE4.out, HE3.out, HE2.out, HE1.out, HE0.out]
                    rfl))
                  go_wp2_with fail
                  go_ret
                  exact ⟨congrArg Ending.returned HQ.out, HXm.out.bel⟩
  -- END

end Go.Proofs.YtnkidmnddkmilaaGreatDoor
