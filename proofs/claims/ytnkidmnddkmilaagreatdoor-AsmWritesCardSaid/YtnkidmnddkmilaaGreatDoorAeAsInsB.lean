/-
  Instructions and handlers: right or not, as a function of the code.
-/
import Derived.Test.YtnkidmnddkmilaaGreatDoorAeAsInsR
namespace Go.Proofs.YtnkidmnddkmilaaGreatDoor
open Go.RowKit
set_option maxRecDepth 100000

structure CodeAt (w : World) (B : Nat) (c : CodeL) (vi vp vk vg : Value) : Prop where
  ins : SlAt w B 4 vi (c.ins.map insC)
  pool : SlAt w B 3 vp (c.pool.map valC)
  keys : SlAt w B 3 vk (c.keys.map keyC)
  guards : SlAt w B 4 vg (c.guards.map guC)

theorem CodeAt.below {w w' : World} {B : Nat} {c : CodeL} {vi vp vk vg : Value} (h : CodeAt w B c vi vp vk vg) (hb : Below B w w') : CodeAt w' B c vi vp vk vg :=
  ⟨h.ins.below hb, h.pool.below hb, h.keys.below hb, h.guards.below hb⟩

/-- a code that is not too long -/
structure Few (c : CodeL) : Prop where
  name : c.name.size ≤ 1499
  ins : c.ins.length ≤ 1499
  pool : c.pool.length ≤ 1499
  keys : c.keys.length ≤ 1499
  guards : c.guards.length ≤ 1499
  vs : ∀ v ∈ c.pool, v.s.size ≤ 1499
  ks : ∀ v ∈ c.keys, v.s.size ≤ 1499

/-- its numbers are ints -/
structure Nums (c : CodeL) : Prop where
  kind : inI c.kind
  len : inI c.len
  regs : inI c.regs
  ins : ∀ x ∈ c.ins, okIns x
  pool : ∀ v ∈ c.pool, inI v.k ∧ inI v.n
  keys : ∀ v ∈ c.keys, inI v.k ∧ inI v.n
  guards : ∀ g ∈ c.guards, inI g.f ∧ inI g.t ∧ inI g.g ∧ inI g.r


/-- an operand is right -/
def opndB (c : CodeL) (g n : Int) : Bool :=
  if g = 114 then P114 c.regs n c.ins.length c.pool.length c.keys.length
  else if g = 100 then P100 c.regs n c.ins.length c.pool.length c.keys.length
  else if g = 113 then P113 c.regs n c.ins.length c.pool.length c.keys.length
  else if g = 116 then P116 c.regs n c.ins.length c.pool.length c.keys.length
  else if g = 112 then P112 c.regs n c.ins.length c.pool.length c.keys.length
  else if g = 111 then (if n < 0 then false else match c.pool[n.toNat]? with | some v => decide (v.k = 5) | none => false)
  else if g = 107 then P107 c.regs n c.ins.length c.pool.length c.keys.length
  else if g = 103 then (if n < 0 then false else match c.keys[n.toNat]? with | some v => decide (v.k = 1) | none => false)
  else if g = 102 then P102 c.regs n c.ins.length c.pool.length c.keys.length
  else if g = 106 then P106 c.regs n c.ins.length c.pool.length c.keys.length
  else if g = 110 then P110 c.regs n c.ins.length c.pool.length c.keys.length
  else if g = 97 then P97 c.regs n c.ins.length c.pool.length c.keys.length
  else if g = 98 then P98 c.regs n c.ins.length c.pool.length c.keys.length
  else P45 c.regs n c.ins.length c.pool.length c.keys.length

theorem opnd_ret (f : Nat) (hf : f = 69 ∨ f = 50) (c : CodeL) (B : Nat) (vi vp vk vg : Value) (hw : Few c) (h0 : 0 ≤ c.regs) (h1 : c.regs ≤ 4096) (g n : Int) (hg : g = 45 ∨ isSign g) (hn : inI n) (w : World) (hc : CodeAt w B c vi vp vk vg) :
    Calls Tryz.prog f #[.agg #[.string c.name, .int .i64 c.kind, .int .i64 c.len, .int .i64 c.regs, vi, vp, vk, vg], .int .u8 g, .int .i64 n] w fun e w' => e = .returned (.bool (opndB c g n)) ∧ Below w.heap.size w w' := by
  obtain ⟨ai, ci, rfl⟩ := hc.ins.slice
  obtain ⟨ap, cp, rfl⟩ := hc.pool.slice
  obtain ⟨ak, ck, rfl⟩ := hc.keys.slice
  obtain ⟨ag, cg, rfl⟩ := hc.guards.slice
  have i1 := hw.ins
  have i2 := hw.pool
  have i3 := hw.keys
  rw [List.length_map, List.length_map, List.length_map, List.length_map]
  rcases hg with rfl | rfl | rfl | rfl | rfl | rfl | rfl | rfl | rfl | rfl | rfl | rfl | rfl | rfl
  case inl => rcases hf with rfl | rfl <;> first | exact partOk_45 _ _ _ _ _ _ _ _ _ _ _ _ _ _ _ _ _ h0 h1 i1 i2 i3 hn w | exact rpartOk_45 _ _ _ _ _ _ _ _ _ _ _ _ _ _ _ _ _ h0 h1 i1 i2 i3 hn w
  case inr.inl => rcases hf with rfl | rfl <;> first | exact partOk_114 _ _ _ _ _ _ _ _ _ _ _ _ _ _ _ _ _ h0 h1 i1 i2 i3 hn w | exact rpartOk_114 _ _ _ _ _ _ _ _ _ _ _ _ _ _ _ _ _ h0 h1 i1 i2 i3 hn w
  case inr.inr.inl => rcases hf with rfl | rfl <;> first | exact partOk_100 _ _ _ _ _ _ _ _ _ _ _ _ _ _ _ _ _ h0 h1 i1 i2 i3 hn w | exact rpartOk_100 _ _ _ _ _ _ _ _ _ _ _ _ _ _ _ _ _ h0 h1 i1 i2 i3 hn w
  case inr.inr.inr.inl => rcases hf with rfl | rfl <;> first | exact partOk_113 _ _ _ _ _ _ _ _ _ _ _ _ _ _ _ _ _ h0 h1 i1 i2 i3 hn w | exact rpartOk_113 _ _ _ _ _ _ _ _ _ _ _ _ _ _ _ _ _ h0 h1 i1 i2 i3 hn w
  case inr.inr.inr.inr.inl => rcases hf with rfl | rfl <;> first | exact partOk_116 _ _ _ _ _ _ _ _ _ _ _ _ _ _ _ _ _ h0 h1 i1 i2 i3 hn w | exact rpartOk_116 _ _ _ _ _ _ _ _ _ _ _ _ _ _ _ _ _ h0 h1 i1 i2 i3 hn w
  case inr.inr.inr.inr.inr.inl => rcases hf with rfl | rfl <;> first | exact partOk_112 _ _ _ _ _ _ _ _ _ _ _ _ _ _ _ _ _ h0 h1 i1 i2 i3 hn w | exact rpartOk_112 _ _ _ _ _ _ _ _ _ _ _ _ _ _ _ _ _ h0 h1 i1 i2 i3 hn w
  case inr.inr.inr.inr.inr.inr.inl =>
    have e : opndB c 111 n = (if n < 0 then false else match c.pool[n.toNat]? with | some v => decide (v.k = 5) | none => false) := rfl
    rw [e]
    by_cases hx : 0 ≤ n ∧ n < (c.pool.length : Int)
    · have hk : n.toNat < c.pool.length := by omega
      have hx1 := List.getElem?_eq_getElem hk
      obtain ⟨_, bk, o, e2, _, hcc⟩ := hc.pool.at (k := n.toNat) (x := valC c.pool[n.toNat]) (by rw [List.getElem?_map, hx1]; rfl)
      subst e2
      have en : n = (n.toNat : Int) := by omega
      have hc0 := hcc 0 _ rfl
      rw [if_neg (by omega), hx1]
      generalize c.pool[n.toNat] = x at *
      generalize n.toNat = m at *
      subst en
      rcases hf with rfl | rfl
      · exact partIn_111 _ _ _ _ _ _ _ bk o _ _ _ _ _ _ _ _ m x.k h0 h1 i1 i2 i3 hk w hc0
      · exact rpartIn_111 _ _ _ _ _ _ _ bk o _ _ _ _ _ _ _ _ m x.k h0 h1 i1 i2 i3 hk w hc0
    · have e3 : (if n < 0 then false else match c.pool[n.toNat]? with | some v => decide (v.k = 5) | none => false) = false := by
        split
        · rfl
        · rw [List.getElem?_eq_none (by omega)]
      rw [e3]
      rcases hf with rfl | rfl
      · exact partNo_111 _ _ _ _ _ _ _ _ _ _ _ _ _ _ _ _ _ h0 h1 i1 i2 i3 hn w hx
      · exact rpartNo_111 _ _ _ _ _ _ _ _ _ _ _ _ _ _ _ _ _ h0 h1 i1 i2 i3 hn w hx
  case inr.inr.inr.inr.inr.inr.inr.inl => rcases hf with rfl | rfl <;> first | exact partOk_107 _ _ _ _ _ _ _ _ _ _ _ _ _ _ _ _ _ h0 h1 i1 i2 i3 hn w | exact rpartOk_107 _ _ _ _ _ _ _ _ _ _ _ _ _ _ _ _ _ h0 h1 i1 i2 i3 hn w
  case inr.inr.inr.inr.inr.inr.inr.inr.inl =>
    have e : opndB c 103 n = (if n < 0 then false else match c.keys[n.toNat]? with | some v => decide (v.k = 1) | none => false) := rfl
    rw [e]
    by_cases hx : 0 ≤ n ∧ n < (c.keys.length : Int)
    · have hk : n.toNat < c.keys.length := by omega
      have hx1 := List.getElem?_eq_getElem hk
      obtain ⟨_, bk, o, e2, _, hcc⟩ := hc.keys.at (k := n.toNat) (x := keyC c.keys[n.toNat]) (by rw [List.getElem?_map, hx1]; rfl)
      subst e2
      have en : n = (n.toNat : Int) := by omega
      have hc0 := hcc 0 _ rfl
      rw [if_neg (by omega), hx1]
      generalize c.keys[n.toNat] = x at *
      generalize n.toNat = m at *
      subst en
      rcases hf with rfl | rfl
      · exact partIn_103 _ _ _ _ _ _ _ _ _ _ bk o _ _ _ _ _ m x.k h0 h1 i1 i2 i3 hk w hc0
      · exact rpartIn_103 _ _ _ _ _ _ _ _ _ _ bk o _ _ _ _ _ m x.k h0 h1 i1 i2 i3 hk w hc0
    · have e3 : (if n < 0 then false else match c.keys[n.toNat]? with | some v => decide (v.k = 1) | none => false) = false := by
        split
        · rfl
        · rw [List.getElem?_eq_none (by omega)]
      rw [e3]
      rcases hf with rfl | rfl
      · exact partNo_103 _ _ _ _ _ _ _ _ _ _ _ _ _ _ _ _ _ h0 h1 i1 i2 i3 hn w hx
      · exact rpartNo_103 _ _ _ _ _ _ _ _ _ _ _ _ _ _ _ _ _ h0 h1 i1 i2 i3 hn w hx
  case inr.inr.inr.inr.inr.inr.inr.inr.inr.inl => rcases hf with rfl | rfl <;> first | exact partOk_102 _ _ _ _ _ _ _ _ _ _ _ _ _ _ _ _ _ h0 h1 i1 i2 i3 hn w | exact rpartOk_102 _ _ _ _ _ _ _ _ _ _ _ _ _ _ _ _ _ h0 h1 i1 i2 i3 hn w
  case inr.inr.inr.inr.inr.inr.inr.inr.inr.inr.inl => rcases hf with rfl | rfl <;> first | exact partOk_106 _ _ _ _ _ _ _ _ _ _ _ _ _ _ _ _ _ h0 h1 i1 i2 i3 hn w | exact rpartOk_106 _ _ _ _ _ _ _ _ _ _ _ _ _ _ _ _ _ h0 h1 i1 i2 i3 hn w
  case inr.inr.inr.inr.inr.inr.inr.inr.inr.inr.inr.inl => rcases hf with rfl | rfl <;> first | exact partOk_110 _ _ _ _ _ _ _ _ _ _ _ _ _ _ _ _ _ h0 h1 i1 i2 i3 hn w | exact rpartOk_110 _ _ _ _ _ _ _ _ _ _ _ _ _ _ _ _ _ h0 h1 i1 i2 i3 hn w
  case inr.inr.inr.inr.inr.inr.inr.inr.inr.inr.inr.inr.inl => rcases hf with rfl | rfl <;> first | exact partOk_97 _ _ _ _ _ _ _ _ _ _ _ _ _ _ _ _ _ h0 h1 i1 i2 i3 hn w | exact rpartOk_97 _ _ _ _ _ _ _ _ _ _ _ _ _ _ _ _ _ h0 h1 i1 i2 i3 hn w
  case inr.inr.inr.inr.inr.inr.inr.inr.inr.inr.inr.inr.inr => rcases hf with rfl | rfl <;> first | exact partOk_98 _ _ _ _ _ _ _ _ _ _ _ _ _ _ _ _ _ h0 h1 i1 i2 i3 hn w | exact rpartOk_98 _ _ _ _ _ _ _ _ _ _ _ _ _ _ _ _ _ h0 h1 i1 i2 i3 hn w

/-- an instruction is right -/
def insB (c : CodeL) (x : InsL) : Bool := if x.op < 0 ∨ 55 ≤ x.op then false else opndB c (kd x.op 0).toNat x.a && (opndB c (kd x.op 1).toNat x.b && opndB c (kd x.op 2).toNat x.c)

theorem okSign_or {g : UInt8} (h : okSign g) : (g.toNat : Int) = 45 ∨ isSign g.toNat := h

theorem ins_ret (f fp fk : Nat) (hf : (f = 36 ∧ fp = 69 ∧ fk = 44) ∨ (f = 47 ∧ fp = 50 ∧ fk = 56)) (c : CodeL) (B : Nat) (vi vp vk vg : Value) (hw : Few c) (h0 : 0 ≤ c.regs) (h1 : c.regs ≤ 4096) (op a b d : Int) (ha : inI a) (hb : inI b) (hd : inI d) (w : World) (hB : B ≤ w.heap.size) (hc : CodeAt w B c vi vp vk vg) :
    Calls Tryz.prog f #[.agg #[.string c.name, .int .i64 c.kind, .int .i64 c.len, .int .i64 c.regs, vi, vp, vk, vg], .agg #[.int .i64 op, .int .i64 a, .int .i64 b, .int .i64 d]] w fun e w' => e = .returned (.bool (insB c ⟨op, a, b, d⟩)) ∧ Below w.heap.size w w' := by
  by_cases h : op < 0 ∨ 55 ≤ op
  · have e : insB c ⟨op, a, b, d⟩ = false := by unfold insB; rw [if_pos h]
    rw [e]
    rcases hf with ⟨rfl, rfl, rfl⟩ | ⟨rfl, rfl, rfl⟩
    · exact ins_z _ _ _ _ _ _ _ _ op a b d w (fun w => kind_out op h w)
    · exact rins_z _ _ _ _ _ _ _ _ op a b d w (fun w => rkind_out op h w)
  · obtain ⟨hk, hg, _, _⟩ := row_good (op := op) (by omega) (by omega)
    have g0 := okSign_or ((hg 0).resolve_right (by omega))
    have g1 := okSign_or ((hg 1).resolve_right (by omega))
    have g2 := okSign_or ((hg 2).resolve_right (by omega))
    have e : insB c ⟨op, a, b, d⟩ = (opndB c (kd op 0).toNat a && (opndB c (kd op 1).toNat b && opndB c (kd op 2).toNat d)) := by unfold insB; rw [if_neg h]
    rw [e]
    have hp : fp = 69 ∨ fp = 50 := by rcases hf with ⟨_, h, _⟩ | ⟨_, h, _⟩ <;> omega
    have R : ∀ (g : UInt8) (n : Int), ((g.toNat : Int) = 45 ∨ isSign g.toNat) → inI n → ∀ w', Below w.heap.size w w' → Calls Tryz.prog fp #[.agg #[.string c.name, .int .i64 c.kind, .int .i64 c.len, .int .i64 c.regs, vi, vp, vk, vg], .int .u8 g.toNat, .int .i64 n] w' fun e w'' => e = .returned (.bool (opndB c g.toNat n)) ∧ Below w'.heap.size w' w'' :=
      fun g n hg hn w' hbw => opnd_ret fp hp c B vi vp vk vg hw h0 h1 _ n hg hn w' (hc.below (hbw.mono hB))
    have r0 := R (kd op 0) a g0 ha
    have r1 := R (kd op 1) b g1 hb
    have r2 := R (kd op 2) d g2 hd
    have hkind : ∀ w, Calls Tryz.prog fk #[.int .i64 op] w fun e w' => e = .returned (.string ⟨#[kd op 0, kd op 1, kd op 2]⟩) ∧ Below w.heap.size w w' := by
      rcases hf with ⟨_, _, rfl⟩ | ⟨_, _, rfl⟩
      · exact fun w => (kind_ret op w).mono fun e w' he => ⟨by rw [he.1, hk]; rfl, he.2⟩
      · exact fun w => (rkind_ret op w).mono fun e w' he => ⟨by rw [he.1, hk]; rfl, he.2⟩
    generalize opndB c (kd op 0).toNat a = b0 at *
    generalize opndB c (kd op 1).toNat b = b1 at *
    generalize opndB c (kd op 2).toNat d = b2 at *
    rcases hf with ⟨rfl, rfl, rfl⟩ | ⟨rfl, rfl, rfl⟩
    · cases b0
      · exact ins_f _ _ _ _ _ _ _ _ op a b d _ _ _ w hkind r0
      · cases b1
        · exact ins_tf _ _ _ _ _ _ _ _ op a b d _ _ _ w hkind r0 r1
        · cases b2
          · exact ins_ttf _ _ _ _ _ _ _ _ op a b d _ _ _ w hkind r0 r1 r2
          · exact ins_ttt _ _ _ _ _ _ _ _ op a b d _ _ _ w hkind r0 r1 r2
    · cases b0
      · exact rins_f _ _ _ _ _ _ _ _ op a b d _ _ _ w hkind r0
      · cases b1
        · exact rins_tf _ _ _ _ _ _ _ _ op a b d _ _ _ w hkind r0 r1
        · cases b2
          · exact rins_ttf _ _ _ _ _ _ _ _ op a b d _ _ _ w hkind r0 r1 r2
          · exact rins_ttt _ _ _ _ _ _ _ _ op a b d _ _ _ w hkind r0 r1 r2

end Go.Proofs.YtnkidmnddkmilaaGreatDoor
