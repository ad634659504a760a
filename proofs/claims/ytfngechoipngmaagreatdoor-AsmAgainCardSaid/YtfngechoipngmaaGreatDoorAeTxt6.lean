/-
  Instructions and handlers: right or not, as a function of the code.
  Which handlers are right.
  Whether all elements of a slice are right: code.every at its four instances.
  The closures that code.Right hands to every.
-/
import Derived.Test.YtfngechoipngmaaGreatDoorAeBsInsR
namespace Go.Proofs.YtfngechoipngmaaGreatDoor
open Go.RowKit
set_option maxRecDepth 100000

structure CodeAt (w : World) (B : Nat) (c : CodeL) (vi vp vk vg : Value) : Prop where
  ins : SlAt w B 4 vi (c.ins.map insC)
  pool : SlAt w B 3 vp (c.pool.map valC)
  keys : SlAt w B 3 vk (c.keys.map keyC)
  guards : SlAt w B 4 vg (c.guards.map guC)

theorem CodeAt.below {w w' : World} {B : Nat} {c : CodeL} {vi vp vk vg : Value} (h : CodeAt w B c vi vp vk vg) (hb : Below B w w') : CodeAt w' B c vi vp vk vg :=
  ⟨h.ins.below hb, h.pool.below hb, h.keys.below hb, h.guards.below hb⟩

/-- a code that is not too long -/
structure Few (c : CodeL) : Prop where
  name : c.name.size ≤ 65536
  ins : c.ins.length ≤ 65536
  pool : c.pool.length ≤ 65536
  keys : c.keys.length ≤ 65536
  guards : c.guards.length ≤ 65536
  vs : ∀ v ∈ c.pool, v.s.size ≤ 65536
  ks : ∀ v ∈ c.keys, v.s.size ≤ 65536

/-- its numbers are ints -/
structure Nums (c : CodeL) : Prop where
  kind : inI c.kind
  len : inI c.len
  regs : inI c.regs
  ins : ∀ x ∈ c.ins, okIns x
  pool : ∀ v ∈ c.pool, inI v.k ∧ inI v.n
  keys : ∀ v ∈ c.keys, inI v.k ∧ inI v.n
  guards : ∀ g ∈ c.guards, inI g.f ∧ inI g.t ∧ inI g.g ∧ inI g.r

/-- an operand is right -/
def opndB (c : CodeL) (g n : Int) : Bool :=
  if g = 114 then P114 c.regs n c.ins.length c.pool.length c.keys.length
  else if g = 100 then P100 c.regs n c.ins.length c.pool.length c.keys.length
  else if g = 113 then P113 c.regs n c.ins.length c.pool.length c.keys.length
  else if g = 116 then P116 c.regs n c.ins.length c.pool.length c.keys.length
  else if g = 112 then P112 c.regs n c.ins.length c.pool.length c.keys.length
  else if g = 111 then (if n < 0 then false else match c.pool[n.toNat]? with | some v => decide (v.k = 5) | none => false)
  else if g = 107 then P107 c.regs n c.ins.length c.pool.length c.keys.length
  else if g = 103 then (if n < 0 then false else match c.keys[n.toNat]? with | some v => decide (v.k = 1) | none => false)
  else if g = 102 then P102 c.regs n c.ins.length c.pool.length c.keys.length
  else if g = 106 then P106 c.regs n c.ins.length c.pool.length c.keys.length
  else if g = 110 then P110 c.regs n c.ins.length c.pool.length c.keys.length
  else if g = 97 then P97 c.regs n c.ins.length c.pool.length c.keys.length
  else if g = 98 then P98 c.regs n c.ins.length c.pool.length c.keys.length
  else P45 c.regs n c.ins.length c.pool.length c.keys.length

theorem opnd_ret (f : Nat) (hf : f = 70 ∨ f = 70) (c : CodeL) (B : Nat) (vi vp vk vg : Value) (hw : Few c) (h0 : 0 ≤ c.regs) (h1 : c.regs ≤ 4096) (g n : Int) (hg : g = 45 ∨ isSign g) (hn : inI n) (w : World) (hc : CodeAt w B c vi vp vk vg) :
    Calls Tryz.prog f #[.agg #[.string c.name, .int .i64 c.kind, .int .i64 c.len, .int .i64 c.regs, vi, vp, vk, vg], .int .u8 g, .int .i64 n] w fun e w' => e = .returned (.bool (opndB c g n)) ∧ Below w.heap.size w w' := by
  obtain ⟨ai, ci, rfl⟩ := hc.ins.slice
  obtain ⟨ap, cp, rfl⟩ := hc.pool.slice
  obtain ⟨ak, ck, rfl⟩ := hc.keys.slice
  obtain ⟨ag, cg, rfl⟩ := hc.guards.slice
  have i1 := hw.ins
  have i2 := hw.pool
  have i3 := hw.keys
  rw [List.length_map, List.length_map, List.length_map, List.length_map]
  rcases hg with rfl | rfl | rfl | rfl | rfl | rfl | rfl | rfl | rfl | rfl | rfl | rfl | rfl | rfl
  case inl => rcases hf with rfl | rfl <;> first | exact partOk_45 _ _ _ _ _ _ _ _ _ _ _ _ _ _ _ _ _ h0 h1 i1 i2 i3 hn w | exact partOk_45 _ _ _ _ _ _ _ _ _ _ _ _ _ _ _ _ _ h0 h1 i1 i2 i3 hn w
  case inr.inl => rcases hf with rfl | rfl <;> first | exact partOk_114 _ _ _ _ _ _ _ _ _ _ _ _ _ _ _ _ _ h0 h1 i1 i2 i3 hn w | exact partOk_114 _ _ _ _ _ _ _ _ _ _ _ _ _ _ _ _ _ h0 h1 i1 i2 i3 hn w
  case inr.inr.inl => rcases hf with rfl | rfl <;> first | exact partOk_100 _ _ _ _ _ _ _ _ _ _ _ _ _ _ _ _ _ h0 h1 i1 i2 i3 hn w | exact partOk_100 _ _ _ _ _ _ _ _ _ _ _ _ _ _ _ _ _ h0 h1 i1 i2 i3 hn w
  case inr.inr.inr.inl => rcases hf with rfl | rfl <;> first | exact partOk_113 _ _ _ _ _ _ _ _ _ _ _ _ _ _ _ _ _ h0 h1 i1 i2 i3 hn w | exact partOk_113 _ _ _ _ _ _ _ _ _ _ _ _ _ _ _ _ _ h0 h1 i1 i2 i3 hn w
  case inr.inr.inr.inr.inl => rcases hf with rfl | rfl <;> first | exact partOk_116 _ _ _ _ _ _ _ _ _ _ _ _ _ _ _ _ _ h0 h1 i1 i2 i3 hn w | exact partOk_116 _ _ _ _ _ _ _ _ _ _ _ _ _ _ _ _ _ h0 h1 i1 i2 i3 hn w
  case inr.inr.inr.inr.inr.inl => rcases hf with rfl | rfl <;> first | exact partOk_112 _ _ _ _ _ _ _ _ _ _ _ _ _ _ _ _ _ h0 h1 i1 i2 i3 hn w | exact partOk_112 _ _ _ _ _ _ _ _ _ _ _ _ _ _ _ _ _ h0 h1 i1 i2 i3 hn w
  case inr.inr.inr.inr.inr.inr.inl =>
    have e : opndB c 111 n = (if n < 0 then false else match c.pool[n.toNat]? with | some v => decide (v.k = 5) | none => false) := rfl
    rw [e]
    by_cases hx : 0 ≤ n ∧ n < (c.pool.length : Int)
    · have hk : n.toNat < c.pool.length := by omega
      have hx1 := List.getElem?_eq_getElem hk
      obtain ⟨_, bk, o, e2, _, hcc⟩ := hc.pool.at (k := n.toNat) (x := valC c.pool[n.toNat]) (by rw [List.getElem?_map, hx1]; rfl)
      subst e2
      have en : n = (n.toNat : Int) := by omega
      have hc0 := hcc 0 _ rfl
      rw [if_neg (by omega), hx1]
      generalize c.pool[n.toNat] = x at *
      generalize n.toNat = m at *
      subst en
      rcases hf with rfl | rfl
      · exact partIn_111 _ _ _ _ _ _ _ bk o _ _ _ _ _ _ _ _ m x.k h0 h1 i1 i2 i3 hk w hc0
      · exact partIn_111 _ _ _ _ _ _ _ bk o _ _ _ _ _ _ _ _ m x.k h0 h1 i1 i2 i3 hk w hc0
    · have e3 : (if n < 0 then false else match c.pool[n.toNat]? with | some v => decide (v.k = 5) | none => false) = false := by
        split
        · rfl
        · rw [List.getElem?_eq_none (by omega)]
      rw [e3]
      rcases hf with rfl | rfl
      · exact partNo_111 _ _ _ _ _ _ _ _ _ _ _ _ _ _ _ _ _ h0 h1 i1 i2 i3 hn w hx
      · exact partNo_111 _ _ _ _ _ _ _ _ _ _ _ _ _ _ _ _ _ h0 h1 i1 i2 i3 hn w hx
  case inr.inr.inr.inr.inr.inr.inr.inl => rcases hf with rfl | rfl <;> first | exact partOk_107 _ _ _ _ _ _ _ _ _ _ _ _ _ _ _ _ _ h0 h1 i1 i2 i3 hn w | exact partOk_107 _ _ _ _ _ _ _ _ _ _ _ _ _ _ _ _ _ h0 h1 i1 i2 i3 hn w
  case inr.inr.inr.inr.inr.inr.inr.inr.inl =>
    have e : opndB c 103 n = (if n < 0 then false else match c.keys[n.toNat]? with | some v => decide (v.k = 1) | none => false) := rfl
    rw [e]
    by_cases hx : 0 ≤ n ∧ n < (c.keys.length : Int)
    · have hk : n.toNat < c.keys.length := by omega
      have hx1 := List.getElem?_eq_getElem hk
      obtain ⟨_, bk, o, e2, _, hcc⟩ := hc.keys.at (k := n.toNat) (x := keyC c.keys[n.toNat]) (by rw [List.getElem?_map, hx1]; rfl)
      subst e2
      have en : n = (n.toNat : Int) := by omega
      have hc0 := hcc 0 _ rfl
      rw [if_neg (by omega), hx1]
      generalize c.keys[n.toNat] = x at *
      generalize n.toNat = m at *
      subst en
      rcases hf with rfl | rfl
      · exact partIn_103 _ _ _ _ _ _ _ _ _ _ bk o _ _ _ _ _ m x.k h0 h1 i1 i2 i3 hk w hc0
      · exact partIn_103 _ _ _ _ _ _ _ _ _ _ bk o _ _ _ _ _ m x.k h0 h1 i1 i2 i3 hk w hc0
    · have e3 : (if n < 0 then false else match c.keys[n.toNat]? with | some v => decide (v.k = 1) | none => false) = false := by
        split
        · rfl
        · rw [List.getElem?_eq_none (by omega)]
      rw [e3]
      rcases hf with rfl | rfl
      · exact partNo_103 _ _ _ _ _ _ _ _ _ _ _ _ _ _ _ _ _ h0 h1 i1 i2 i3 hn w hx
      · exact partNo_103 _ _ _ _ _ _ _ _ _ _ _ _ _ _ _ _ _ h0 h1 i1 i2 i3 hn w hx
  case inr.inr.inr.inr.inr.inr.inr.inr.inr.inl => rcases hf with rfl | rfl <;> first | exact partOk_102 _ _ _ _ _ _ _ _ _ _ _ _ _ _ _ _ _ h0 h1 i1 i2 i3 hn w | exact partOk_102 _ _ _ _ _ _ _ _ _ _ _ _ _ _ _ _ _ h0 h1 i1 i2 i3 hn w
  case inr.inr.inr.inr.inr.inr.inr.inr.inr.inr.inl => rcases hf with rfl | rfl <;> first | exact partOk_106 _ _ _ _ _ _ _ _ _ _ _ _ _ _ _ _ _ h0 h1 i1 i2 i3 hn w | exact partOk_106 _ _ _ _ _ _ _ _ _ _ _ _ _ _ _ _ _ h0 h1 i1 i2 i3 hn w
  case inr.inr.inr.inr.inr.inr.inr.inr.inr.inr.inr.inl => rcases hf with rfl | rfl <;> first | exact partOk_110 _ _ _ _ _ _ _ _ _ _ _ _ _ _ _ _ _ h0 h1 i1 i2 i3 hn w | exact partOk_110 _ _ _ _ _ _ _ _ _ _ _ _ _ _ _ _ _ h0 h1 i1 i2 i3 hn w
  case inr.inr.inr.inr.inr.inr.inr.inr.inr.inr.inr.inr.inl => rcases hf with rfl | rfl <;> first | exact partOk_97 _ _ _ _ _ _ _ _ _ _ _ _ _ _ _ _ _ h0 h1 i1 i2 i3 hn w | exact partOk_97 _ _ _ _ _ _ _ _ _ _ _ _ _ _ _ _ _ h0 h1 i1 i2 i3 hn w
  case inr.inr.inr.inr.inr.inr.inr.inr.inr.inr.inr.inr.inr => rcases hf with rfl | rfl <;> first | exact partOk_98 _ _ _ _ _ _ _ _ _ _ _ _ _ _ _ _ _ h0 h1 i1 i2 i3 hn w | exact partOk_98 _ _ _ _ _ _ _ _ _ _ _ _ _ _ _ _ _ h0 h1 i1 i2 i3 hn w

/-- an instruction is right -/
def insB (c : CodeL) (x : InsL) : Bool := if x.op < 0 ∨ 55 ≤ x.op then false else opndB c (kd x.op 0).toNat x.a && (opndB c (kd x.op 1).toNat x.b && opndB c (kd x.op 2).toNat x.c)

theorem okSign_or {g : UInt8} (h : okSign g) : (g.toNat : Int) = 45 ∨ isSign g.toNat := h

theorem ins_ret (f fp fk : Nat) (hf : (f = 37 ∧ fp = 70 ∧ fk = 45) ∨ (f = 37 ∧ fp = 70 ∧ fk = 45)) (c : CodeL) (B : Nat) (vi vp vk vg : Value) (hw : Few c) (h0 : 0 ≤ c.regs) (h1 : c.regs ≤ 4096) (op a b d : Int) (ha : inI a) (hb : inI b) (hd : inI d) (w : World) (hB : B ≤ w.heap.size) (hc : CodeAt w B c vi vp vk vg) :
    Calls Tryz.prog f #[.agg #[.string c.name, .int .i64 c.kind, .int .i64 c.len, .int .i64 c.regs, vi, vp, vk, vg], .agg #[.int .i64 op, .int .i64 a, .int .i64 b, .int .i64 d]] w fun e w' => e = .returned (.bool (insB c ⟨op, a, b, d⟩)) ∧ Below w.heap.size w w' := by
  by_cases h : op < 0 ∨ 55 ≤ op
  · have e : insB c ⟨op, a, b, d⟩ = false := by unfold insB; rw [if_pos h]
    rw [e]
    rcases hf with ⟨rfl, rfl, rfl⟩ | ⟨rfl, rfl, rfl⟩
    · exact ins_z _ _ _ _ _ _ _ _ op a b d w (fun w => kind_out op h w)
    · exact ins_z _ _ _ _ _ _ _ _ op a b d w (fun w => kind_out op h w)
  · obtain ⟨hk, hg, _, _⟩ := row_good (op := op) (by omega) (by omega)
    have g0 := okSign_or ((hg 0).resolve_right (by omega))
    have g1 := okSign_or ((hg 1).resolve_right (by omega))
    have g2 := okSign_or ((hg 2).resolve_right (by omega))
    have e : insB c ⟨op, a, b, d⟩ = (opndB c (kd op 0).toNat a && (opndB c (kd op 1).toNat b && opndB c (kd op 2).toNat d)) := by unfold insB; rw [if_neg h]
    rw [e]
    have hp : fp = 70 ∨ fp = 70 := by rcases hf with ⟨_, h, _⟩ | ⟨_, h, _⟩ <;> omega
    have R : ∀ (g : UInt8) (n : Int), ((g.toNat : Int) = 45 ∨ isSign g.toNat) → inI n → ∀ w', Below w.heap.size w w' → Calls Tryz.prog fp #[.agg #[.string c.name, .int .i64 c.kind, .int .i64 c.len, .int .i64 c.regs, vi, vp, vk, vg], .int .u8 g.toNat, .int .i64 n] w' fun e w'' => e = .returned (.bool (opndB c g.toNat n)) ∧ Below w'.heap.size w' w'' :=
      fun g n hg hn w' hbw => opnd_ret fp hp c B vi vp vk vg hw h0 h1 _ n hg hn w' (hc.below (hbw.mono hB))
    have r0 := R (kd op 0) a g0 ha
    have r1 := R (kd op 1) b g1 hb
    have r2 := R (kd op 2) d g2 hd
    have hkind : ∀ w, Calls Tryz.prog fk #[.int .i64 op] w fun e w' => e = .returned (.string ⟨#[kd op 0, kd op 1, kd op 2]⟩) ∧ Below w.heap.size w w' := by
      rcases hf with ⟨_, _, rfl⟩ | ⟨_, _, rfl⟩
      · exact fun w => (kind_ret op w).mono fun e w' he => ⟨by rw [he.1, hk]; rfl, he.2⟩
      · exact fun w => (kind_ret op w).mono fun e w' he => ⟨by rw [he.1, hk]; rfl, he.2⟩
    generalize opndB c (kd op 0).toNat a = b0 at *
    generalize opndB c (kd op 1).toNat b = b1 at *
    generalize opndB c (kd op 2).toNat d = b2 at *
    rcases hf with ⟨rfl, rfl, rfl⟩ | ⟨rfl, rfl, rfl⟩
    · cases b0
      · exact ins_f _ _ _ _ _ _ _ _ op a b d _ _ _ w hkind r0
      · cases b1
        · exact ins_tf _ _ _ _ _ _ _ _ op a b d _ _ _ w hkind r0 r1
        · cases b2
          · exact ins_ttf _ _ _ _ _ _ _ _ op a b d _ _ _ w hkind r0 r1 r2
          · exact ins_ttt _ _ _ _ _ _ _ _ op a b d _ _ _ w hkind r0 r1 r2
    · cases b0
      · exact ins_f _ _ _ _ _ _ _ _ op a b d _ _ _ w hkind r0
      · cases b1
        · exact ins_tf _ _ _ _ _ _ _ _ op a b d _ _ _ w hkind r0 r1
        · cases b2
          · exact ins_ttf _ _ _ _ _ _ _ _ op a b d _ _ _ w hkind r0 r1 r2
          · exact ins_ttt _ _ _ _ _ _ _ _ op a b d _ _ _ w hkind r0 r1 r2

end Go.Proofs.YtfngechoipngmaaGreatDoor

namespace Go.Proofs.YtfngechoipngmaaGreatDoor
open Go.RowKit
set_option maxRecDepth 100000

/-- a handler is right -/
def guB (c : CodeL) (g : GuL) : Bool := decide (0 ≤ g.f ∧ g.f < g.t ∧ g.t ≤ (c.ins.length : Int)) && (opndB c 106 g.g && opndB c 114 g.r)

set_option maxHeartbeats 4000000 in
theorem gu_aux (s : ByteArray) (k l r : Int) (ai : Option Addr) (li ci : Nat) (vp vk vg : Value) (f t g q : Int) (b1 b2 : Bool) (hf : inI f) (ht : inI t) (_hli : li ≤ 65536) (w : World)
    (r1 : ∀ w', Below w.heap.size w w' → Calls Tryz.prog 70 #[.agg #[.string s, .int .i64 k, .int .i64 l, .int .i64 r, .slice ai li ci, vp, vk, vg], .int .u8 106, .int .i64 g] w' fun e w'' => e = .returned (.bool b1) ∧ Below w'.heap.size w' w'')
    (r2 : ∀ w', Below w.heap.size w w' → Calls Tryz.prog 70 #[.agg #[.string s, .int .i64 k, .int .i64 l, .int .i64 r, .slice ai li ci, vp, vk, vg], .int .u8 114, .int .i64 q] w' fun e w'' => e = .returned (.bool b2) ∧ Below w'.heap.size w' w'') :
    Calls Tryz.prog 40 #[.agg #[.string s, .int .i64 k, .int .i64 l, .int .i64 r, .slice ai li ci, vp, vk, vg], .agg #[.int .i64 f, .int .i64 t, .int .i64 g, .int .i64 q]] w fun e w' => e = .returned (.bool (decide (0 ≤ f ∧ f < t ∧ t ≤ (li : Int)) && (b1 && b2))) ∧ Below w.heap.size w w' := by
  obtain ⟨f0, f1⟩ := hf
  obtain ⟨t0, t1⟩ := ht
  have hb0 : Below w.heap.size w ((w.alloc (.cells #[.string s, .int .i64 k, .int .i64 l, .int .i64 r, .slice ai li ci, vp, vk, vg] 36)).alloc (.cells #[.int .i64 f, .int .i64 t, .int .i64 g, .int .i64 q] 63)) := ((Below.refl _ _).alloc (Nat.le_refl _) _).alloc (by simp) _
  by_cases h : 0 ≤ f ∧ f < t ∧ t ≤ (li : Int)
  · rw [decide_eq_true h, Bool.true_and]
    obtain ⟨a1, a2, a3⟩ := h
    have HR1 := Lib.hid r1
    have HR2 := Lib.hid r2
    have HB0 := Lib.hid hb0
    clear r1 r2 hb0
    cases b1
    · go_enter Tryz.func40, Tryz.ntmps40
      go_wp2_with (go_at_call 70; refine (HR1.out _ HB0.out).mono ?_; rintro e w1 ⟨rfl, hb1⟩)
      go_ret
      exact ⟨rfl, HB0.out.trans (hb1.mono HB0.out.size)⟩
    · go_enter Tryz.func40, Tryz.ntmps40
      go_wp2_with (go_at_call 70; ((with_reducible refine (HR1.out _ HB0.out).mono ?_); rintro e w1 ⟨rfl, hb1⟩; obtain ⟨hcc, hff⟩ := bcell hb1))
      have HBA := Lib.hid (HB0.out.trans (hb1.mono HB0.out.size))
      clear hb1
      go_wp2_with (go_at_call 70; ((with_reducible refine (HR2.out _ HBA.out).mono ?_); rintro e w2 ⟨rfl, hb2⟩))
      all_goals
        go_ret
        exact ⟨rfl, HBA.out.trans (hb2.mono HBA.out.size)⟩
  · rw [decide_eq_false h, Bool.false_and]
    by_cases c1 : 0 ≤ f
    · by_cases c2 : f < t
      · have c3 : (li : Int) < t := by omega
        clear h
        go_enter Tryz.func40, Tryz.ntmps40
        go_wp2
        go_ret
        exact ⟨rfl, hb0⟩
      · have c3 : t ≤ f := by omega
        have c4 : decide (f < t) = false := by simpa using c2
        clear h c2
        go_enter Tryz.func40, Tryz.ntmps40
        go_wp2
        go_ret
        exact ⟨rfl, hb0⟩
    · have c3 : decide (0 ≤ f) = false := by simpa using c1
      have c4 : f < 0 := by omega
      clear h c1
      go_enter Tryz.func40, Tryz.ntmps40
      go_wp2
      go_ret
      exact ⟨rfl, hb0⟩

theorem gu_ret (c : CodeL) (B : Nat) (vi vp vk vg : Value) (hw : Few c) (h0 : 0 ≤ c.regs) (h1 : c.regs ≤ 4096) (g : GuL) (hg : inI g.f ∧ inI g.t ∧ inI g.g ∧ inI g.r) (w : World) (hB : B ≤ w.heap.size) (hc : CodeAt w B c vi vp vk vg) :
    Calls Tryz.prog 40 #[.agg #[.string c.name, .int .i64 c.kind, .int .i64 c.len, .int .i64 c.regs, vi, vp, vk, vg], .agg #[.int .i64 g.f, .int .i64 g.t, .int .i64 g.g, .int .i64 g.r]] w fun e w' => e = .returned (.bool (guB c g)) ∧ Below w.heap.size w w' := by
  have R : ∀ (x n : Int), (x = 45 ∨ isSign x) → inI n → ∀ w', Below w.heap.size w w' → Calls Tryz.prog 70 #[.agg #[.string c.name, .int .i64 c.kind, .int .i64 c.len, .int .i64 c.regs, vi, vp, vk, vg], .int .u8 x, .int .i64 n] w' fun e w'' => e = .returned (.bool (opndB c x n)) ∧ Below w'.heap.size w' w'' :=
    fun x n hx hn w' hbw => opnd_ret 70 (Or.inl rfl) c B vi vp vk vg hw h0 h1 _ n hx hn w' (hc.below (hbw.mono hB))
  have r1 := R 106 g.g (Or.inr (by unfold isSign; omega)) hg.2.2.1
  have r2 := R 114 g.r (Or.inr (by unfold isSign; omega)) hg.2.2.2
  obtain ⟨ai, ci, rfl⟩ := hc.ins.slice
  have hl := hw.ins
  rw [List.length_map] at *
  exact gu_aux _ _ _ _ _ _ _ _ _ _ g.f g.t g.g g.r _ _ hg.1 hg.2.1 hl w r1 r2

end Go.Proofs.YtfngechoipngmaaGreatDoor

namespace Go.Proofs.YtfngechoipngmaaGreatDoor
open Go.RowKit
set_option maxRecDepth 100000

/-- where the first element stands that is not right; -1 where there is none -/
def idxI {X : Type} (r : X → Bool) (xs : List X) : Int := if xs.all r then -1 else (xs.findIdx (fun x => !r x) : Nat)

theorem idxI_at {X : Type} {r : X → Bool} {xs : List X} {k : Nat} (hk : k < xs.length) (hb : ∀ j (h : j < xs.length), j < k → r xs[j] = true) (hr : r xs[k] = false) : idxI r xs = k := by
  have ha : xs.all r = false := by
    rw [Bool.eq_false_iff]
    intro h
    rw [List.all_eq_true] at h
    rw [h _ (List.getElem_mem hk)] at hr
    cases hr
  have hi : xs.findIdx (fun x => !r x) = k := by
    rw [List.findIdx_eq hk]
    exact ⟨by simp [hr], fun j hj => by simp [hb j (by omega) hj]⟩
  unfold idxI
  rw [ha, hi]
  rfl

theorem idxI_none {X : Type} {r : X → Bool} {xs : List X} (hb : ∀ j (h : j < xs.length), r xs[j] = true) : idxI r xs = -1 := by
  have ha : xs.all r = true := by
    rw [List.all_eq_true]
    intro x hx
    obtain ⟨j, hj, rfl⟩ := List.getElem_of_mem hx
    exact hb j hj
  unfold idxI
  rw [ha]
  rfl

theorem idxI_ge {X : Type} (r : X → Bool) (xs : List X) : (xs.all r = true ∧ idxI r xs = -1) ∨ (xs.all r = false ∧ 0 ≤ idxI r xs) := by
  unfold idxI
  cases xs.all r
  · exact Or.inr ⟨rfl, Int.natCast_nonneg _⟩
  · exact Or.inl ⟨rfl, rfl⟩

set_option maxHeartbeats 4000000 in
theorem idxV_ret (xs : List ValL) (r : ValL → Bool) (B fb : Nat) (v : Value) (hl : xs.length ≤ 65536) (w : World) (hB : B ≤ w.heap.size) (hv : SlAt w B 3 v (xs.map valC)) (hcl : ∀ x ∈ xs, ∀ w', Below w.heap.size w w' → Calls Tryz.prog 64 #[.agg #[.int .i64 x.k, .int .i64 x.n, .string x.s], .pointer (some ⟨fb, 0, none⟩)] w' fun e w'' => e = .returned (.bool (!(r x))) ∧ Below w'.heap.size w' w'') :
    Calls Tryz.prog 92 #[v, .func (.func 64) #[] #[.pointer (some ⟨fb, 0, none⟩)]] w fun e w' => e = .returned (.int .i64 (idxI r xs)) ∧ Below w.heap.size w w' := by
  obtain ⟨a, cap, rfl⟩ := hv.slice
  have HV := Lib.hid hv
  have HC := Lib.hid hcl
  clear hv hcl
  rw [List.length_map]
  go_enter Tryz.func92, Tryz.ntmps92
  go_wp2
  go_loopw [4, 5, 8] (fun z j i W => ∃ k : Nat, k ≤ xs.length ∧ i = .int .i64 k ∧ Hid (∀ j (h : j < xs.length), j < k → r xs[j] = true) ∧ Below w.heap.size w W) (fun _ _ i _ => xs.length - (intOf i).toNat)
  case atStart => exact ⟨0, Nat.zero_le _, rfl, Lib.hid (fun j h h' => absurd h' (Nat.not_lt_zero _)), Below.refl _ _⟩
  case round =>
    obtain ⟨k, hk, rfl, hall, hbl⟩ := hrel
    have hsz := hbl.size
    by_cases hlt : k < xs.length
    · have hx := List.getElem?_eq_getElem hlt
      obtain ⟨_, bk, o, ea, hbk, hcc⟩ := (HV.out.below (hbl.mono hB)).at (k := k) (x := valC xs[k]) (by rw [List.getElem?_map, hx]; rfl)
      have hc := HC.out xs[k] (List.getElem_mem hlt)
      have HN : Hid (r xs[k] = true → ∀ j (h : j < xs.length), j < k + 1 → r xs[j] = true) := Lib.hid (fun hr j h h' => by
        by_cases e : j = k
        · subst e; exact hr
        · exact hall.out j h (by omega))
      have HF : Hid (r xs[k] = false → idxI r xs = k) := Lib.hid (fun hr => idxI_at hlt hall.out hr)
      have h0 : wr.cell? ⟨bk, o + k * 3, none⟩ = some (.int .i64 xs[k].k) := hcc 0 _ rfl
      have h1 : wr.cell? ⟨bk, o + k * 3 + 1, none⟩ = some (.int .i64 xs[k].n) := hcc 1 _ rfl
      have h2 : wr.cell? ⟨bk, o + k * 3 + 2, none⟩ = some (.string xs[k].s) := hcc 2 _ rfl
      clear hcc hx
      subst ea
      generalize xs[k] = x at *
      have hc' : ∀ w', Below w.heap.size w w' → ∀ b, r x = b → Calls Tryz.prog 64 #[.agg #[.int .i64 x.k, .int .i64 x.n, .string x.s], .pointer (some ⟨fb, 0, none⟩)] w' fun e w'' => e = .returned (.bool (!b)) ∧ Below w'.heap.size w' w'' := fun w' hw b hb => by rw [← hb]; exact hc w' hw
      clear hc
      cases hr : r x with
      | true =>
        have HN2 := Lib.hid (HN.out hr)
        have hc2 := hc' wr hbl true hr
        clear HN HF hc' hr
        go_wp2_with (go_at_call 64; refine hc2.mono ?_; rintro e w1 ⟨rfl, hb1⟩)
        go_roundw
        case rel => exact ⟨k + 1, by omega, by go_num, HN2, hbl.trans (hb1.mono hsz)⟩
        case measure => simp [intOf]; omega
      | false =>
        have HF2 := Lib.hid (HF.out hr)
        have hc2 := hc' wr hbl false hr
        clear HN HF hc' hr
        go_wp2_with (go_at_call 64; refine hc2.mono ?_; rintro e w1 ⟨rfl, hb1⟩)
        go_ret
        exact ⟨ret_int HF2.out.symm, hbl.trans (hb1.mono hsz)⟩
    · have HE := Lib.hid (idxI_none (r := r) (xs := xs) (fun j h => hall.out j h (by omega)))
      go_wp2
      go_ret
      exact ⟨ret_int HE.out.symm, hbl⟩

theorem containsV_ret (xs : List ValL) (r : ValL → Bool) (B fb : Nat) (v : Value) (hl : xs.length ≤ 65536) (w : World) (hB : B ≤ w.heap.size) (hv : SlAt w B 3 v (xs.map valC)) (hcl : ∀ x ∈ xs, ∀ w', Below w.heap.size w w' → Calls Tryz.prog 64 #[.agg #[.int .i64 x.k, .int .i64 x.n, .string x.s], .pointer (some ⟨fb, 0, none⟩)] w' fun e w'' => e = .returned (.bool (!(r x))) ∧ Below w'.heap.size w' w'') :
    Calls Tryz.prog 63 #[v, .func (.func 64) #[] #[.pointer (some ⟨fb, 0, none⟩)]] w fun e w' => e = .returned (.bool (!(xs.all r))) ∧ Below w.heap.size w w' := by
  have hi := idxV_ret xs r B fb v hl w hB hv hcl
  rcases idxI_ge r xs with ⟨h1, h2⟩ | ⟨h1, h2⟩
  · rw [h1]
    rw [h2] at hi
    clear h1 h2 hv hcl
    go_enter Tryz.func63, Tryz.ntmps63
    go_wp2_with (go_at_call 92; refine hi.mono ?_; rintro e w1 ⟨rfl, hb1⟩)
    go_ret
    exact ⟨rfl, hb1⟩
  · rw [h1]
    clear h1 hv hcl
    generalize idxI r xs = m at *
    go_enter Tryz.func63, Tryz.ntmps63
    go_wp2_with (go_at_call 92; refine hi.mono ?_; rintro e w1 ⟨rfl, hb1⟩)
    go_ret
    refine ⟨ret_bool ?_, hb1⟩
    first | rfl | simpa using h2

set_option maxHeartbeats 4000000 in
theorem everyV_ret (xs : List ValL) (r : ValL → Bool) (B : Nat) (v : Value) (fv : Value) (hl : xs.length ≤ 65536) (w : World) (hB : B ≤ w.heap.size) (hv : SlAt w B 3 v (xs.map valC))
    (hcl : ∀ x ∈ xs, ∀ w', Below (w.heap.size + 1) (w.alloc (.cells #[fv] 76)) w' → Calls Tryz.prog 64 #[.agg #[.int .i64 x.k, .int .i64 x.n, .string x.s], .pointer (some ⟨w.heap.size, 0, none⟩)] w' fun e w'' => e = .returned (.bool (!(r x))) ∧ Below w'.heap.size w' w'') (hfv : fv.oneCell' = true) (hfc : fv.cells = #[fv]) :
    Calls Tryz.prog 31 #[v, fv] w fun e w' => e = .returned (.bool (xs.all r)) ∧ Below w.heap.size w w' := by
  have hb0 : Below w.heap.size w (w.alloc (.cells #[fv] 76)) := (Below.refl _ _).alloc (Nat.le_refl _) _
  have hs : (w.alloc (.cells #[fv] 76)).heap.size = w.heap.size + 1 := by simp
  have hc := containsV_ret xs r B w.heap.size v hl (w.alloc (.cells #[fv] 76)) (Nat.le_trans hB hb0.size) (hv.below (hb0.mono hB)) (fun x hx w' hw => hcl x hx w' (by rw [← hs]; exact hw))
  obtain ⟨a, cap, rfl⟩ := hv.slice
  rw [List.length_map] at *
  clear hcl hv
  generalize xs.all r = b at *
  go_enter Tryz.func31, Tryz.ntmps31
  go_wp2_with (go_at_call 63; refine hc.mono ?_; rintro e w1 ⟨rfl, hb1⟩)
  go_ret
  exact ⟨rfl, hb0.trans (hb1.mono hb0.size)⟩

set_option maxHeartbeats 4000000 in
theorem idxK_ret (xs : List KeyL) (r : KeyL → Bool) (B fb : Nat) (v : Value) (hl : xs.length ≤ 65536) (w : World) (hB : B ≤ w.heap.size) (hv : SlAt w B 3 v (xs.map keyC)) (hcl : ∀ x ∈ xs, ∀ w', Below w.heap.size w w' → Calls Tryz.prog 66 #[.agg #[.int .i64 x.k, .int .i64 x.n, .string x.s], .pointer (some ⟨fb, 0, none⟩)] w' fun e w'' => e = .returned (.bool (!(r x))) ∧ Below w'.heap.size w' w'') :
    Calls Tryz.prog 93 #[v, .func (.func 66) #[] #[.pointer (some ⟨fb, 0, none⟩)]] w fun e w' => e = .returned (.int .i64 (idxI r xs)) ∧ Below w.heap.size w w' := by
  obtain ⟨a, cap, rfl⟩ := hv.slice
  have HV := Lib.hid hv
  have HC := Lib.hid hcl
  clear hv hcl
  rw [List.length_map]
  go_enter Tryz.func93, Tryz.ntmps93
  go_wp2
  go_loopw [4, 5, 8] (fun z j i W => ∃ k : Nat, k ≤ xs.length ∧ i = .int .i64 k ∧ Hid (∀ j (h : j < xs.length), j < k → r xs[j] = true) ∧ Below w.heap.size w W) (fun _ _ i _ => xs.length - (intOf i).toNat)
  case atStart => exact ⟨0, Nat.zero_le _, rfl, Lib.hid (fun j h h' => absurd h' (Nat.not_lt_zero _)), Below.refl _ _⟩
  case round =>
    obtain ⟨k, hk, rfl, hall, hbl⟩ := hrel
    have hsz := hbl.size
    by_cases hlt : k < xs.length
    · have hx := List.getElem?_eq_getElem hlt
      obtain ⟨_, bk, o, ea, hbk, hcc⟩ := (HV.out.below (hbl.mono hB)).at (k := k) (x := keyC xs[k]) (by rw [List.getElem?_map, hx]; rfl)
      have hc := HC.out xs[k] (List.getElem_mem hlt)
      have HN : Hid (r xs[k] = true → ∀ j (h : j < xs.length), j < k + 1 → r xs[j] = true) := Lib.hid (fun hr j h h' => by
        by_cases e : j = k
        · subst e; exact hr
        · exact hall.out j h (by omega))
      have HF : Hid (r xs[k] = false → idxI r xs = k) := Lib.hid (fun hr => idxI_at hlt hall.out hr)
      have h0 : wr.cell? ⟨bk, o + k * 3, none⟩ = some (.int .i64 xs[k].k) := hcc 0 _ rfl
      have h1 : wr.cell? ⟨bk, o + k * 3 + 1, none⟩ = some (.int .i64 xs[k].n) := hcc 1 _ rfl
      have h2 : wr.cell? ⟨bk, o + k * 3 + 2, none⟩ = some (.string xs[k].s) := hcc 2 _ rfl
      clear hcc hx
      subst ea
      generalize xs[k] = x at *
      have hc' : ∀ w', Below w.heap.size w w' → ∀ b, r x = b → Calls Tryz.prog 66 #[.agg #[.int .i64 x.k, .int .i64 x.n, .string x.s], .pointer (some ⟨fb, 0, none⟩)] w' fun e w'' => e = .returned (.bool (!b)) ∧ Below w'.heap.size w' w'' := fun w' hw b hb => by rw [← hb]; exact hc w' hw
      clear hc
      cases hr : r x with
      | true =>
        have HN2 := Lib.hid (HN.out hr)
        have hc2 := hc' wr hbl true hr
        clear HN HF hc' hr
        go_wp2_with (go_at_call 66; refine hc2.mono ?_; rintro e w1 ⟨rfl, hb1⟩)
        go_roundw
        case rel => exact ⟨k + 1, by omega, by go_num, HN2, hbl.trans (hb1.mono hsz)⟩
        case measure => simp [intOf]; omega
      | false =>
        have HF2 := Lib.hid (HF.out hr)
        have hc2 := hc' wr hbl false hr
        clear HN HF hc' hr
        go_wp2_with (go_at_call 66; refine hc2.mono ?_; rintro e w1 ⟨rfl, hb1⟩)
        go_ret
        exact ⟨ret_int HF2.out.symm, hbl.trans (hb1.mono hsz)⟩
    · have HE := Lib.hid (idxI_none (r := r) (xs := xs) (fun j h => hall.out j h (by omega)))
      go_wp2
      go_ret
      exact ⟨ret_int HE.out.symm, hbl⟩

theorem containsK_ret (xs : List KeyL) (r : KeyL → Bool) (B fb : Nat) (v : Value) (hl : xs.length ≤ 65536) (w : World) (hB : B ≤ w.heap.size) (hv : SlAt w B 3 v (xs.map keyC)) (hcl : ∀ x ∈ xs, ∀ w', Below w.heap.size w w' → Calls Tryz.prog 66 #[.agg #[.int .i64 x.k, .int .i64 x.n, .string x.s], .pointer (some ⟨fb, 0, none⟩)] w' fun e w'' => e = .returned (.bool (!(r x))) ∧ Below w'.heap.size w' w'') :
    Calls Tryz.prog 65 #[v, .func (.func 66) #[] #[.pointer (some ⟨fb, 0, none⟩)]] w fun e w' => e = .returned (.bool (!(xs.all r))) ∧ Below w.heap.size w w' := by
  have hi := idxK_ret xs r B fb v hl w hB hv hcl
  rcases idxI_ge r xs with ⟨h1, h2⟩ | ⟨h1, h2⟩
  · rw [h1]
    rw [h2] at hi
    clear h1 h2 hv hcl
    go_enter Tryz.func65, Tryz.ntmps65
    go_wp2_with (go_at_call 93; refine hi.mono ?_; rintro e w1 ⟨rfl, hb1⟩)
    go_ret
    exact ⟨rfl, hb1⟩
  · rw [h1]
    clear h1 hv hcl
    generalize idxI r xs = m at *
    go_enter Tryz.func65, Tryz.ntmps65
    go_wp2_with (go_at_call 93; refine hi.mono ?_; rintro e w1 ⟨rfl, hb1⟩)
    go_ret
    refine ⟨ret_bool ?_, hb1⟩
    first | rfl | simpa using h2

set_option maxHeartbeats 4000000 in
theorem everyK_ret (xs : List KeyL) (r : KeyL → Bool) (B : Nat) (v : Value) (fv : Value) (hl : xs.length ≤ 65536) (w : World) (hB : B ≤ w.heap.size) (hv : SlAt w B 3 v (xs.map keyC))
    (hcl : ∀ x ∈ xs, ∀ w', Below (w.heap.size + 1) (w.alloc (.cells #[fv] 78)) w' → Calls Tryz.prog 66 #[.agg #[.int .i64 x.k, .int .i64 x.n, .string x.s], .pointer (some ⟨w.heap.size, 0, none⟩)] w' fun e w'' => e = .returned (.bool (!(r x))) ∧ Below w'.heap.size w' w'') (hfv : fv.oneCell' = true) (hfc : fv.cells = #[fv]) :
    Calls Tryz.prog 33 #[v, fv] w fun e w' => e = .returned (.bool (xs.all r)) ∧ Below w.heap.size w w' := by
  have hb0 : Below w.heap.size w (w.alloc (.cells #[fv] 78)) := (Below.refl _ _).alloc (Nat.le_refl _) _
  have hs : (w.alloc (.cells #[fv] 78)).heap.size = w.heap.size + 1 := by simp
  have hc := containsK_ret xs r B w.heap.size v hl (w.alloc (.cells #[fv] 78)) (Nat.le_trans hB hb0.size) (hv.below (hb0.mono hB)) (fun x hx w' hw => hcl x hx w' (by rw [← hs]; exact hw))
  obtain ⟨a, cap, rfl⟩ := hv.slice
  rw [List.length_map] at *
  clear hcl hv
  generalize xs.all r = b at *
  go_enter Tryz.func33, Tryz.ntmps33
  go_wp2_with (go_at_call 65; refine hc.mono ?_; rintro e w1 ⟨rfl, hb1⟩)
  go_ret
  exact ⟨rfl, hb0.trans (hb1.mono hb0.size)⟩

set_option maxHeartbeats 4000000 in
theorem idxI_ret (xs : List InsL) (r : InsL → Bool) (B fb : Nat) (v : Value) (hl : xs.length ≤ 65536) (w : World) (hB : B ≤ w.heap.size) (hv : SlAt w B 4 v (xs.map insC)) (hcl : ∀ x ∈ xs, ∀ w', Below w.heap.size w w' → Calls Tryz.prog 69 #[.agg #[.int .i64 x.op, .int .i64 x.a, .int .i64 x.b, .int .i64 x.c], .pointer (some ⟨fb, 0, none⟩)] w' fun e w'' => e = .returned (.bool (!(r x))) ∧ Below w'.heap.size w' w'') :
    Calls Tryz.prog 94 #[v, .func (.func 69) #[] #[.pointer (some ⟨fb, 0, none⟩)]] w fun e w' => e = .returned (.int .i64 (idxI r xs)) ∧ Below w.heap.size w w' := by
  obtain ⟨a, cap, rfl⟩ := hv.slice
  have HV := Lib.hid hv
  have HC := Lib.hid hcl
  clear hv hcl
  rw [List.length_map]
  go_enter Tryz.func94, Tryz.ntmps94
  go_wp2
  go_loopw [4, 5, 8] (fun z j i W => ∃ k : Nat, k ≤ xs.length ∧ i = .int .i64 k ∧ Hid (∀ j (h : j < xs.length), j < k → r xs[j] = true) ∧ Below w.heap.size w W) (fun _ _ i _ => xs.length - (intOf i).toNat)
  case atStart => exact ⟨0, Nat.zero_le _, rfl, Lib.hid (fun j h h' => absurd h' (Nat.not_lt_zero _)), Below.refl _ _⟩
  case round =>
    obtain ⟨k, hk, rfl, hall, hbl⟩ := hrel
    have hsz := hbl.size
    by_cases hlt : k < xs.length
    · have hx := List.getElem?_eq_getElem hlt
      obtain ⟨_, bk, o, ea, hbk, hcc⟩ := (HV.out.below (hbl.mono hB)).at (k := k) (x := insC xs[k]) (by rw [List.getElem?_map, hx]; rfl)
      have hc := HC.out xs[k] (List.getElem_mem hlt)
      have HN : Hid (r xs[k] = true → ∀ j (h : j < xs.length), j < k + 1 → r xs[j] = true) := Lib.hid (fun hr j h h' => by
        by_cases e : j = k
        · subst e; exact hr
        · exact hall.out j h (by omega))
      have HF : Hid (r xs[k] = false → idxI r xs = k) := Lib.hid (fun hr => idxI_at hlt hall.out hr)
      have h0 : wr.cell? ⟨bk, o + k * 4, none⟩ = some (.int .i64 xs[k].op) := hcc 0 _ rfl
      have h1 : wr.cell? ⟨bk, o + k * 4 + 1, none⟩ = some (.int .i64 xs[k].a) := hcc 1 _ rfl
      have h2 : wr.cell? ⟨bk, o + k * 4 + 2, none⟩ = some (.int .i64 xs[k].b) := hcc 2 _ rfl
      have h3 : wr.cell? ⟨bk, o + k * 4 + 3, none⟩ = some (.int .i64 xs[k].c) := hcc 3 _ rfl
      clear hcc hx
      subst ea
      generalize xs[k] = x at *
      have hc' : ∀ w', Below w.heap.size w w' → ∀ b, r x = b → Calls Tryz.prog 69 #[.agg #[.int .i64 x.op, .int .i64 x.a, .int .i64 x.b, .int .i64 x.c], .pointer (some ⟨fb, 0, none⟩)] w' fun e w'' => e = .returned (.bool (!b)) ∧ Below w'.heap.size w' w'' := fun w' hw b hb => by rw [← hb]; exact hc w' hw
      clear hc
      cases hr : r x with
      | true =>
        have HN2 := Lib.hid (HN.out hr)
        have hc2 := hc' wr hbl true hr
        clear HN HF hc' hr
        go_wp2_with (go_at_call 69; refine hc2.mono ?_; rintro e w1 ⟨rfl, hb1⟩)
        go_roundw
        case rel => exact ⟨k + 1, by omega, by go_num, HN2, hbl.trans (hb1.mono hsz)⟩
        case measure => simp [intOf]; omega
      | false =>
        have HF2 := Lib.hid (HF.out hr)
        have hc2 := hc' wr hbl false hr
        clear HN HF hc' hr
        go_wp2_with (go_at_call 69; refine hc2.mono ?_; rintro e w1 ⟨rfl, hb1⟩)
        go_ret
        exact ⟨ret_int HF2.out.symm, hbl.trans (hb1.mono hsz)⟩
    · have HE := Lib.hid (idxI_none (r := r) (xs := xs) (fun j h => hall.out j h (by omega)))
      go_wp2
      go_ret
      exact ⟨ret_int HE.out.symm, hbl⟩

theorem containsI_ret (xs : List InsL) (r : InsL → Bool) (B fb : Nat) (v : Value) (hl : xs.length ≤ 65536) (w : World) (hB : B ≤ w.heap.size) (hv : SlAt w B 4 v (xs.map insC)) (hcl : ∀ x ∈ xs, ∀ w', Below w.heap.size w w' → Calls Tryz.prog 69 #[.agg #[.int .i64 x.op, .int .i64 x.a, .int .i64 x.b, .int .i64 x.c], .pointer (some ⟨fb, 0, none⟩)] w' fun e w'' => e = .returned (.bool (!(r x))) ∧ Below w'.heap.size w' w'') :
    Calls Tryz.prog 68 #[v, .func (.func 69) #[] #[.pointer (some ⟨fb, 0, none⟩)]] w fun e w' => e = .returned (.bool (!(xs.all r))) ∧ Below w.heap.size w w' := by
  have hi := idxI_ret xs r B fb v hl w hB hv hcl
  rcases idxI_ge r xs with ⟨h1, h2⟩ | ⟨h1, h2⟩
  · rw [h1]
    rw [h2] at hi
    clear h1 h2 hv hcl
    go_enter Tryz.func68, Tryz.ntmps68
    go_wp2_with (go_at_call 94; refine hi.mono ?_; rintro e w1 ⟨rfl, hb1⟩)
    go_ret
    exact ⟨rfl, hb1⟩
  · rw [h1]
    clear h1 hv hcl
    generalize idxI r xs = m at *
    go_enter Tryz.func68, Tryz.ntmps68
    go_wp2_with (go_at_call 94; refine hi.mono ?_; rintro e w1 ⟨rfl, hb1⟩)
    go_ret
    refine ⟨ret_bool ?_, hb1⟩
    first | rfl | simpa using h2

set_option maxHeartbeats 4000000 in
theorem everyI_ret (xs : List InsL) (r : InsL → Bool) (B : Nat) (v : Value) (fv : Value) (hl : xs.length ≤ 65536) (w : World) (hB : B ≤ w.heap.size) (hv : SlAt w B 4 v (xs.map insC))
    (hcl : ∀ x ∈ xs, ∀ w', Below (w.heap.size + 1) (w.alloc (.cells #[fv] 81)) w' → Calls Tryz.prog 69 #[.agg #[.int .i64 x.op, .int .i64 x.a, .int .i64 x.b, .int .i64 x.c], .pointer (some ⟨w.heap.size, 0, none⟩)] w' fun e w'' => e = .returned (.bool (!(r x))) ∧ Below w'.heap.size w' w'') (hfv : fv.oneCell' = true) (hfc : fv.cells = #[fv]) :
    Calls Tryz.prog 35 #[v, fv] w fun e w' => e = .returned (.bool (xs.all r)) ∧ Below w.heap.size w w' := by
  have hb0 : Below w.heap.size w (w.alloc (.cells #[fv] 81)) := (Below.refl _ _).alloc (Nat.le_refl _) _
  have hs : (w.alloc (.cells #[fv] 81)).heap.size = w.heap.size + 1 := by simp
  have hc := containsI_ret xs r B w.heap.size v hl (w.alloc (.cells #[fv] 81)) (Nat.le_trans hB hb0.size) (hv.below (hb0.mono hB)) (fun x hx w' hw => hcl x hx w' (by rw [← hs]; exact hw))
  obtain ⟨a, cap, rfl⟩ := hv.slice
  rw [List.length_map] at *
  clear hcl hv
  generalize xs.all r = b at *
  go_enter Tryz.func35, Tryz.ntmps35
  go_wp2_with (go_at_call 68; refine hc.mono ?_; rintro e w1 ⟨rfl, hb1⟩)
  go_ret
  exact ⟨rfl, hb0.trans (hb1.mono hb0.size)⟩

set_option maxHeartbeats 4000000 in
theorem idxG_ret (xs : List GuL) (r : GuL → Bool) (B fb : Nat) (v : Value) (hl : xs.length ≤ 65536) (w : World) (hB : B ≤ w.heap.size) (hv : SlAt w B 4 v (xs.map guC)) (hcl : ∀ x ∈ xs, ∀ w', Below w.heap.size w w' → Calls Tryz.prog 72 #[.agg #[.int .i64 x.f, .int .i64 x.t, .int .i64 x.g, .int .i64 x.r], .pointer (some ⟨fb, 0, none⟩)] w' fun e w'' => e = .returned (.bool (!(r x))) ∧ Below w'.heap.size w' w'') :
    Calls Tryz.prog 95 #[v, .func (.func 72) #[] #[.pointer (some ⟨fb, 0, none⟩)]] w fun e w' => e = .returned (.int .i64 (idxI r xs)) ∧ Below w.heap.size w w' := by
  obtain ⟨a, cap, rfl⟩ := hv.slice
  have HV := Lib.hid hv
  have HC := Lib.hid hcl
  clear hv hcl
  rw [List.length_map]
  go_enter Tryz.func95, Tryz.ntmps95
  go_wp2
  go_loopw [4, 5, 8] (fun z j i W => ∃ k : Nat, k ≤ xs.length ∧ i = .int .i64 k ∧ Hid (∀ j (h : j < xs.length), j < k → r xs[j] = true) ∧ Below w.heap.size w W) (fun _ _ i _ => xs.length - (intOf i).toNat)
  case atStart => exact ⟨0, Nat.zero_le _, rfl, Lib.hid (fun j h h' => absurd h' (Nat.not_lt_zero _)), Below.refl _ _⟩
  case round =>
    obtain ⟨k, hk, rfl, hall, hbl⟩ := hrel
    have hsz := hbl.size
    by_cases hlt : k < xs.length
    · have hx := List.getElem?_eq_getElem hlt
      obtain ⟨_, bk, o, ea, hbk, hcc⟩ := (HV.out.below (hbl.mono hB)).at (k := k) (x := guC xs[k]) (by rw [List.getElem?_map, hx]; rfl)
      have hc := HC.out xs[k] (List.getElem_mem hlt)
      have HN : Hid (r xs[k] = true → ∀ j (h : j < xs.length), j < k + 1 → r xs[j] = true) := Lib.hid (fun hr j h h' => by
        by_cases e : j = k
        · subst e; exact hr
        · exact hall.out j h (by omega))
      have HF : Hid (r xs[k] = false → idxI r xs = k) := Lib.hid (fun hr => idxI_at hlt hall.out hr)
      have h0 : wr.cell? ⟨bk, o + k * 4, none⟩ = some (.int .i64 xs[k].f) := hcc 0 _ rfl
      have h1 : wr.cell? ⟨bk, o + k * 4 + 1, none⟩ = some (.int .i64 xs[k].t) := hcc 1 _ rfl
      have h2 : wr.cell? ⟨bk, o + k * 4 + 2, none⟩ = some (.int .i64 xs[k].g) := hcc 2 _ rfl
      have h3 : wr.cell? ⟨bk, o + k * 4 + 3, none⟩ = some (.int .i64 xs[k].r) := hcc 3 _ rfl
      clear hcc hx
      subst ea
      generalize xs[k] = x at *
      have hc' : ∀ w', Below w.heap.size w w' → ∀ b, r x = b → Calls Tryz.prog 72 #[.agg #[.int .i64 x.f, .int .i64 x.t, .int .i64 x.g, .int .i64 x.r], .pointer (some ⟨fb, 0, none⟩)] w' fun e w'' => e = .returned (.bool (!b)) ∧ Below w'.heap.size w' w'' := fun w' hw b hb => by rw [← hb]; exact hc w' hw
      clear hc
      cases hr : r x with
      | true =>
        have HN2 := Lib.hid (HN.out hr)
        have hc2 := hc' wr hbl true hr
        clear HN HF hc' hr
        go_wp2_with (go_at_call 72; refine hc2.mono ?_; rintro e w1 ⟨rfl, hb1⟩)
        go_roundw
        case rel => exact ⟨k + 1, by omega, by go_num, HN2, hbl.trans (hb1.mono hsz)⟩
        case measure => simp [intOf]; omega
      | false =>
        have HF2 := Lib.hid (HF.out hr)
        have hc2 := hc' wr hbl false hr
        clear HN HF hc' hr
        go_wp2_with (go_at_call 72; refine hc2.mono ?_; rintro e w1 ⟨rfl, hb1⟩)
        go_ret
        exact ⟨ret_int HF2.out.symm, hbl.trans (hb1.mono hsz)⟩
    · have HE := Lib.hid (idxI_none (r := r) (xs := xs) (fun j h => hall.out j h (by omega)))
      go_wp2
      go_ret
      exact ⟨ret_int HE.out.symm, hbl⟩

theorem containsG_ret (xs : List GuL) (r : GuL → Bool) (B fb : Nat) (v : Value) (hl : xs.length ≤ 65536) (w : World) (hB : B ≤ w.heap.size) (hv : SlAt w B 4 v (xs.map guC)) (hcl : ∀ x ∈ xs, ∀ w', Below w.heap.size w w' → Calls Tryz.prog 72 #[.agg #[.int .i64 x.f, .int .i64 x.t, .int .i64 x.g, .int .i64 x.r], .pointer (some ⟨fb, 0, none⟩)] w' fun e w'' => e = .returned (.bool (!(r x))) ∧ Below w'.heap.size w' w'') :
    Calls Tryz.prog 71 #[v, .func (.func 72) #[] #[.pointer (some ⟨fb, 0, none⟩)]] w fun e w' => e = .returned (.bool (!(xs.all r))) ∧ Below w.heap.size w w' := by
  have hi := idxG_ret xs r B fb v hl w hB hv hcl
  rcases idxI_ge r xs with ⟨h1, h2⟩ | ⟨h1, h2⟩
  · rw [h1]
    rw [h2] at hi
    clear h1 h2 hv hcl
    go_enter Tryz.func71, Tryz.ntmps71
    go_wp2_with (go_at_call 95; refine hi.mono ?_; rintro e w1 ⟨rfl, hb1⟩)
    go_ret
    exact ⟨rfl, hb1⟩
  · rw [h1]
    clear h1 hv hcl
    generalize idxI r xs = m at *
    go_enter Tryz.func71, Tryz.ntmps71
    go_wp2_with (go_at_call 95; refine hi.mono ?_; rintro e w1 ⟨rfl, hb1⟩)
    go_ret
    refine ⟨ret_bool ?_, hb1⟩
    first | rfl | simpa using h2

set_option maxHeartbeats 4000000 in
theorem everyG_ret (xs : List GuL) (r : GuL → Bool) (B : Nat) (v : Value) (fv : Value) (hl : xs.length ≤ 65536) (w : World) (hB : B ≤ w.heap.size) (hv : SlAt w B 4 v (xs.map guC))
    (hcl : ∀ x ∈ xs, ∀ w', Below (w.heap.size + 1) (w.alloc (.cells #[fv] 84)) w' → Calls Tryz.prog 72 #[.agg #[.int .i64 x.f, .int .i64 x.t, .int .i64 x.g, .int .i64 x.r], .pointer (some ⟨w.heap.size, 0, none⟩)] w' fun e w'' => e = .returned (.bool (!(r x))) ∧ Below w'.heap.size w' w'') (hfv : fv.oneCell' = true) (hfc : fv.cells = #[fv]) :
    Calls Tryz.prog 38 #[v, fv] w fun e w' => e = .returned (.bool (xs.all r)) ∧ Below w.heap.size w w' := by
  have hb0 : Below w.heap.size w (w.alloc (.cells #[fv] 84)) := (Below.refl _ _).alloc (Nat.le_refl _) _
  have hs : (w.alloc (.cells #[fv] 84)).heap.size = w.heap.size + 1 := by simp
  have hc := containsG_ret xs r B w.heap.size v hl (w.alloc (.cells #[fv] 84)) (Nat.le_trans hB hb0.size) (hv.below (hb0.mono hB)) (fun x hx w' hw => hcl x hx w' (by rw [← hs]; exact hw))
  obtain ⟨a, cap, rfl⟩ := hv.slice
  rw [List.length_map] at *
  clear hcl hv
  generalize xs.all r = b at *
  go_enter Tryz.func38, Tryz.ntmps38
  go_wp2_with (go_at_call 71; refine hc.mono ?_; rintro e w1 ⟨rfl, hb1⟩)
  go_ret
  exact ⟨rfl, hb0.trans (hb1.mono hb0.size)⟩

end Go.Proofs.YtfngechoipngmaaGreatDoor

namespace Go.Proofs.YtfngechoipngmaaGreatDoor
open Go.RowKit
set_option maxRecDepth 100000

theorem clV_ret (fb : Nat) (k n : Int) (s : ByteArray) (hs : s.size ≤ 65536) (w : World) (hf : w.cell? ⟨fb, 0, none⟩ = some (.func (.func 32) #[] #[])) :
    Calls Tryz.prog 64 #[.agg #[.int .i64 k, .int .i64 n, .string s], .pointer (some ⟨fb, 0, none⟩)] w fun e w' => e = .returned (.bool (!(valB k n s))) ∧ Below w.heap.size w w' := by
  have hb0 : Below w.heap.size w (w.alloc (.cells #[.int .i64 k, .int .i64 n, .string s] 43)) := (Below.refl _ _).alloc (Nat.le_refl _) _
  have hlt := lt_of_cell hf
  have cA := fun ob => cell_old w ob hlt
  have hv := Lib.hid (val_ret k n s hs)
  generalize valB k n s = b at *
  go_enter Tryz.func64, Tryz.ntmps64
  go_wp2_with (go_at_call 32; refine (hv.out _).mono ?_; rintro e w1 ⟨rfl, hb1⟩)
  go_ret
  exact ⟨rfl, hb0.trans (hb1.mono hb0.size)⟩

theorem clK_ret (fb : Nat) (k n : Int) (s : ByteArray) (hs : s.size ≤ 65536) (w : World) (hf : w.cell? ⟨fb, 0, none⟩ = some (.func (.func 34) #[] #[])) :
    Calls Tryz.prog 66 #[.agg #[.int .i64 k, .int .i64 n, .string s], .pointer (some ⟨fb, 0, none⟩)] w fun e w' => e = .returned (.bool (!(keyB k n s))) ∧ Below w.heap.size w w' := by
  have hb0 : Below w.heap.size w (w.alloc (.cells #[.int .i64 k, .int .i64 n, .string s] 44)) := (Below.refl _ _).alloc (Nat.le_refl _) _
  have hlt := lt_of_cell hf
  have cA := fun ob => cell_old w ob hlt
  have hv := Lib.hid (keyRight k n s hs)
  generalize keyB k n s = b at *
  go_enter Tryz.func66, Tryz.ntmps66
  go_wp2_with (go_at_call 34; refine (hv.out _).mono ?_; rintro e w1 ⟨rfl, hb1⟩)
  go_ret
  exact ⟨rfl, hb0.trans (hb1.mono hb0.size)⟩

/-- a code's box -/
structure Box (w : World) (b : Nat) (c : CodeL) (vi vp vk vg : Value) : Prop where
  c0 : w.cell? ⟨b, 0, none⟩ = some (.string c.name)
  c1 : w.cell? ⟨b, 1, none⟩ = some (.int .i64 c.kind)
  c2 : w.cell? ⟨b, 2, none⟩ = some (.int .i64 c.len)
  c3 : w.cell? ⟨b, 3, none⟩ = some (.int .i64 c.regs)
  c4 : w.cell? ⟨b, 4, none⟩ = some vi
  c5 : w.cell? ⟨b, 5, none⟩ = some vp
  c6 : w.cell? ⟨b, 6, none⟩ = some vk
  c7 : w.cell? ⟨b, 7, none⟩ = some vg

theorem Box.below {w w' : World} {b B : Nat} {c : CodeL} {vi vp vk vg : Value} (h : Box w b c vi vp vk vg) (hb : Below B w w') (hlt : b < B) : Box w' b c vi vp vk vg := by
  have e : ∀ o, w'.cell? ⟨b, o, none⟩ = w.cell? ⟨b, o, none⟩ := fun o => hb.cell (p := ⟨b, o, none⟩) hlt
  exact ⟨(e 0).trans h.c0, (e 1).trans h.c1, (e 2).trans h.c2, (e 3).trans h.c3, (e 4).trans h.c4, (e 5).trans h.c5, (e 6).trans h.c6, (e 7).trans h.c7⟩

set_option maxHeartbeats 1000000 in
theorem clI_ret (fb cb : Nat) (c : CodeL) (B : Nat) (vi vp vk vg : Value) (hw : Few c) (h0 : 0 ≤ c.regs) (h1 : c.regs ≤ 4096) (x : InsL) (hx : okIns x) (w : World) (hB : B ≤ w.heap.size) (hc : CodeAt w B c vi vp vk vg) (hbx : Box w cb c vi vp vk vg)
    (hf : w.cell? ⟨fb, 0, none⟩ = some (.func (.func 36) #[] #[.pointer (some ⟨cb, 0, none⟩)])) :
    Calls Tryz.prog 69 #[.agg #[.int .i64 x.op, .int .i64 x.a, .int .i64 x.b, .int .i64 x.c], .pointer (some ⟨fb, 0, none⟩)] w fun e w' => e = .returned (.bool (!(insB c x))) ∧ Below w.heap.size w w' := by
  have hbl := fun w' (hw' : Below w.heap.size w w') => Lib.hid (ins_ret 37 70 45 (Or.inl ⟨rfl, rfl, rfl⟩) c B vi vp vk vg hw h0 h1 x.op x.a x.b x.c hx.2.1 hx.2.2.1 hx.2.2.2 w' (Nat.le_trans hB hw'.size) (hc.below (hw'.mono hB)))
  have HBL := Lib.hid hbl
  have hb0 : Below w.heap.size w (w.alloc (.cells #[.int .i64 x.op, .int .i64 x.a, .int .i64 x.b, .int .i64 x.c] 46)) := (Below.refl _ _).alloc (Nat.le_refl _) _
  have hb2 : Below w.heap.size w ((w.alloc (.cells #[.int .i64 x.op, .int .i64 x.a, .int .i64 x.b, .int .i64 x.c] 46)).alloc (.cells #[.int .i64 x.op, .int .i64 x.a, .int .i64 x.b, .int .i64 x.c] 46)) := hb0.alloc hb0.size _
  have HB2 := Lib.hid hb2
  obtain ⟨b0, b1, b2, b3, b4, b5, b6, b7⟩ := hbx
  have hl1 := lt_of_cell hf
  have hl2 := lt_of_cell b0
  have cA : ∀ (ob : Obj) (o : Nat), (w.alloc ob).cell? ⟨fb, o, none⟩ = w.cell? ⟨fb, o, none⟩ := fun ob => cell_old w ob hl1
  have cB : ∀ (ob : Obj) (o : Nat), (w.alloc ob).cell? ⟨cb, o, none⟩ = w.cell? ⟨cb, o, none⟩ := fun ob => cell_old w ob hl2
  have cC : ∀ (ob oc : Obj) (o : Nat), ((w.alloc ob).alloc oc).cell? ⟨cb, o, none⟩ = w.cell? ⟨cb, o, none⟩ := fun ob oc o => (cell_old (w.alloc ob) oc (by simp; omega) o).trans (cell_old w ob hl2 o)
  have e : insB c ⟨x.op, x.a, x.b, x.c⟩ = insB c x := rfl
  clear hbl hc hb0 hb2
  rw [e] at HBL
  generalize insB c x = b at *
  clear e
  go_enter Tryz.func69, Tryz.ntmps69
  go_wp2_with (first
    | (go_at_call 37; refine ((HBL.out _ HB2.out).out).mono ?_; rintro e w1 ⟨rfl, hb1⟩)
    | go_in)
  go_ret
  exact ⟨rfl, HB2.out.trans (hb1.mono HB2.out.size)⟩

set_option maxHeartbeats 1000000 in
theorem clG_ret (fb cb : Nat) (c : CodeL) (B : Nat) (vi vp vk vg : Value) (hw : Few c) (h0 : 0 ≤ c.regs) (h1 : c.regs ≤ 4096) (x : GuL) (hx : inI x.f ∧ inI x.t ∧ inI x.g ∧ inI x.r) (w : World) (hB : B ≤ w.heap.size) (hc : CodeAt w B c vi vp vk vg) (hbx : Box w cb c vi vp vk vg)
    (hf : w.cell? ⟨fb, 0, none⟩ = some (.func (.func 39) #[] #[.pointer (some ⟨cb, 0, none⟩)])) :
    Calls Tryz.prog 72 #[.agg #[.int .i64 x.f, .int .i64 x.t, .int .i64 x.g, .int .i64 x.r], .pointer (some ⟨fb, 0, none⟩)] w fun e w' => e = .returned (.bool (!(guB c x))) ∧ Below w.heap.size w w' := by
  have hbl := fun w' (hw' : Below w.heap.size w w') => Lib.hid (gu_ret c B vi vp vk vg hw h0 h1 x hx w' (Nat.le_trans hB hw'.size) (hc.below (hw'.mono hB)))
  have HBL := Lib.hid hbl
  have hb0 : Below w.heap.size w (w.alloc (.cells #[.int .i64 x.f, .int .i64 x.t, .int .i64 x.g, .int .i64 x.r] 63)) := (Below.refl _ _).alloc (Nat.le_refl _) _
  have hb2 : Below w.heap.size w ((w.alloc (.cells #[.int .i64 x.f, .int .i64 x.t, .int .i64 x.g, .int .i64 x.r] 63)).alloc (.cells #[.int .i64 x.f, .int .i64 x.t, .int .i64 x.g, .int .i64 x.r] 63)) := hb0.alloc hb0.size _
  have HB2 := Lib.hid hb2
  obtain ⟨b0, b1, b2, b3, b4, b5, b6, b7⟩ := hbx
  have hl1 := lt_of_cell hf
  have hl2 := lt_of_cell b0
  have cA : ∀ (ob : Obj) (o : Nat), (w.alloc ob).cell? ⟨fb, o, none⟩ = w.cell? ⟨fb, o, none⟩ := fun ob => cell_old w ob hl1
  have cB : ∀ (ob : Obj) (o : Nat), (w.alloc ob).cell? ⟨cb, o, none⟩ = w.cell? ⟨cb, o, none⟩ := fun ob => cell_old w ob hl2
  have cC : ∀ (ob oc : Obj) (o : Nat), ((w.alloc ob).alloc oc).cell? ⟨cb, o, none⟩ = w.cell? ⟨cb, o, none⟩ := fun ob oc o => (cell_old (w.alloc ob) oc (by simp; omega) o).trans (cell_old w ob hl2 o)
  clear hbl hc hb0 hb2
  generalize guB c x = b at *
  go_enter Tryz.func72, Tryz.ntmps72
  go_wp2_with (first
    | (go_at_call 40; refine ((HBL.out _ HB2.out).out).mono ?_; rintro e w1 ⟨rfl, hb1⟩)
    | go_in)
  go_ret
  exact ⟨rfl, HB2.out.trans (hb1.mono HB2.out.size)⟩

/-- all of a code's constants, keys, instructions, handlers -/
theorem evV_ret (c : CodeL) (B : Nat) (vi vp vk vg : Value) (hw : Few c) (w : World) (hB : B ≤ w.heap.size) (hc : CodeAt w B c vi vp vk vg) :
    Calls Tryz.prog 31 #[vp, .func (.func 32) #[] #[]] w fun e w' => e = .returned (.bool (c.pool.all fun v => valB v.k v.n v.s)) ∧ Below w.heap.size w w' := by
  refine everyV_ret c.pool _ B vp _ hw.pool w hB hc.pool (fun x hx w' hb => clV_ret _ _ _ _ (hw.vs x hx) w' ?_) rfl rfl
  rw [hb.cell (p := ⟨w.heap.size, 0, none⟩) (by show w.heap.size < _; omega), Lib.cell_of_heap (heap_alloc_new w _)]
  rfl

theorem evK_ret (c : CodeL) (B : Nat) (vi vp vk vg : Value) (hw : Few c) (w : World) (hB : B ≤ w.heap.size) (hc : CodeAt w B c vi vp vk vg) :
    Calls Tryz.prog 33 #[vk, .func (.func 34) #[] #[]] w fun e w' => e = .returned (.bool (c.keys.all fun v => keyB v.k v.n v.s)) ∧ Below w.heap.size w w' := by
  refine everyK_ret c.keys _ B vk _ hw.keys w hB hc.keys (fun x hx w' hb => clK_ret _ _ _ _ (hw.ks x hx) w' ?_) rfl rfl
  rw [hb.cell (p := ⟨w.heap.size, 0, none⟩) (by show w.heap.size < _; omega), Lib.cell_of_heap (heap_alloc_new w _)]
  rfl

theorem evI_ret (cb : Nat) (c : CodeL) (B : Nat) (vi vp vk vg : Value) (hw : Few c) (hn : Nums c) (h0 : 0 ≤ c.regs) (h1 : c.regs ≤ 4096) (w : World) (hB : B ≤ w.heap.size) (hc : CodeAt w B c vi vp vk vg) (hbx : Box w cb c vi vp vk vg) :
    Calls Tryz.prog 35 #[vi, .func (.func 36) #[] #[.pointer (some ⟨cb, 0, none⟩)]] w fun e w' => e = .returned (.bool (c.ins.all fun x => insB c x)) ∧ Below w.heap.size w w' := by
  have hl := lt_of_cell hbx.c0
  have hb0 : ∀ ob, Below w.heap.size w (w.alloc ob) := fun ob => (Below.refl _ _).alloc (Nat.le_refl _) _
  refine everyI_ret c.ins _ B vi _ hw.ins w hB hc.ins (fun x hx w' hb => ?_) rfl rfl
  have hb1 : Below w.heap.size w w' := (hb0 _).trans (hb.mono (by omega))
  refine clI_ret _ cb c B vi vp vk vg hw h0 h1 x (hn.ins x hx) w' (Nat.le_trans hB hb1.size) (hc.below (hb1.mono hB)) (hbx.below hb1 hl) ?_
  rw [hb.cell (p := ⟨w.heap.size, 0, none⟩) (by show w.heap.size < _; omega), Lib.cell_of_heap (heap_alloc_new w _)]
  rfl

theorem evG_ret (cb : Nat) (c : CodeL) (B : Nat) (vi vp vk vg : Value) (hw : Few c) (hn : Nums c) (h0 : 0 ≤ c.regs) (h1 : c.regs ≤ 4096) (w : World) (hB : B ≤ w.heap.size) (hc : CodeAt w B c vi vp vk vg) (hbx : Box w cb c vi vp vk vg) :
    Calls Tryz.prog 38 #[vg, .func (.func 39) #[] #[.pointer (some ⟨cb, 0, none⟩)]] w fun e w' => e = .returned (.bool (c.guards.all fun x => guB c x)) ∧ Below w.heap.size w w' := by
  have hl := lt_of_cell hbx.c0
  have hb0 : ∀ ob, Below w.heap.size w (w.alloc ob) := fun ob => (Below.refl _ _).alloc (Nat.le_refl _) _
  refine everyG_ret c.guards _ B vg _ hw.guards w hB hc.guards (fun x hx w' hb => ?_) rfl rfl
  have hb1 : Below w.heap.size w w' := (hb0 _).trans (hb.mono (by omega))
  refine clG_ret _ cb c B vi vp vk vg hw h0 h1 x (hn.guards x hx) w' (Nat.le_trans hB hb1.size) (hc.below (hb1.mono hB)) (hbx.below hb1 hl) ?_
  rw [hb.cell (p := ⟨w.heap.size, 0, none⟩) (by show w.heap.size < _; omega), Lib.cell_of_heap (heap_alloc_new w _)]
  rfl

end Go.Proofs.YtfngechoipngmaaGreatDoor
