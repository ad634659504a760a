/-
  IterateAll: the statement's own code: what comes ahead of its test by a walk, what comes behind it by the evaluator.
-/
import Derived.Test.YtianjdlnljhgoaaGreatDoorAeItPath
import Derived.Test.YtianjdlnljhgoaaGreatDoorAeItRight
import Derived.Test.YtianjdlnljhgoaaGreatDoorAeItSet
namespace Go.AE

section
variable {Y : Sy} {E : Env} {ρ : Rho} {w : World}

theorem rel_none (w : World) (n : Nat) (pr : List Nat) : Rel Y E (fun _ => none) ⟨.nil, n, [], pr⟩ w := by
  have hnone : ∀ b, H.get ⟨.nil, n, [], pr⟩ b = none := fun b => by rw [H.get_eq]; rfl
  refine ⟨fun b o h _ => ?_, fun b c o p L M h => ?_, fun _ _ => rfl, fun b L h => by cases h⟩
  · rw [hnone] at h; cases h
  · rw [hnone] at h; cases h

/-- what a heap says that is made of blocks one by one -/
theorem get_list (l : List (Nat × AObj)) (n : Nat) (pr : List Nat) (b : Nat) (o : AObj) (h : H.get ⟨putAll l .nil, n, [], pr⟩ b = some o) : (b, o) ∈ l := by
  rw [H.get_bare] at h
  rcases get_putAll (b := b) l with ⟨_, o', ho', h2⟩ | ⟨_, h2⟩
  · rw [h2] at h
    cases h
    exact ho'
  · rw [h2] at h; cases h

end
end Go.AE

namespace Go.Proofs.YtianjdlnljhgoaaGreatDoor
open Go.AE Go.RowKit
set_option maxRecDepth 100000

theorem ft3 : env.ft.get 3 = some fn3 := by
  have h : (match env.ft.get 3 with | some _ => true | none => false) = true := by kernel_rfl
  unfold fn3
  revert h
  generalize env.ft.get 3 = x
  cases x with
  | none => intro h; cases h
  | some f => intro _; rfl

theorem fn3_eq : Tryz.f3 = fn3 := by kernel_rfl
theorem nums_made : (madeS.new.all fun p => Nat.ble 3 p.1 && Nat.blt p.1 475) = true := by kernel_rfl
theorem live3 : (lvOf env fn3).live = 2305843146652713455 := by kernel_rfl

section
variable {Y : Sy}

/-- a new realm -/
structure MadeR (Y : Sy) (w : World) (e : Ending) (w' : World) : Prop where
  ex : ∃ (ρ : Rho) (A : Addr), e = .returned (.pointer (some A)) ∧ (∃ L, ρ 11 = some L ∧ A = L.addr 0) ∧ Rel Y env ρ ⟨putAll madeS.new .nil, 475, [], []⟩ w' ∧ (∀ b L, ρ b = some L → 3 ≤ b ∧ b < 475 ∧ w.heap.size ≤ L.blk)
  bel : Below w.heap.size w w'

theorem made_ret (w : World) : Calls Tryz.prog 4 #[] w fun e w' => MadeR Y w e w' := by
  have h := (made_ok (Y := Y)).2 (fun _ => none) w [] (rel_none w _ _) (fun g h => absurd h (Nat.not_lt_zero _)) rfl
  refine h.mono fun e w' he => ?_
  obtain ⟨cv, ρ', rfl, hgo, hv⟩ := he
  have hrel : Rel Y env ρ' ⟨putAll madeS.new .nil, 475, [], []⟩ w' := hgo.rel
  have hone : ∀ b o, madeS.before.get b = some o → False := fun b o hb => by
    unfold Sum.before at hb
    rw [H.get_bare] at hb
    cases hb
  have hv' : conc Y ρ' (.ptr 11 0) = some cv := hv
  simp only [conc] at hv'
  rw [Option.map_eq_some_iff] at hv'
  obtain ⟨L, hL, hcv⟩ := hv'
  refine ⟨⟨ρ', L.addr 0, by rw [← hcv], ⟨L, hL, rfl⟩, hrel, fun b M hM => ⟨?_, ?_, ?_⟩⟩, ⟨hgo.frm.os, hgo.frm.tape, hgo.frm.output, hgo.frm.size, fun k hk => hgo.frm.block k hk fun b o L hb => (hone b o hb).elim⟩⟩
  · rcases Nat.lt_or_ge b 3 with h | h
    · have := hgo.same b h
      rw [hM] at this
      cases this
    · exact h
  · rcases Nat.lt_or_ge b 475 with h | h
    · exact h
    · have := hrel.fresh b h
      rw [hM] at this
      cases this
  · rcases hgo.made b M rfl hM with h | ⟨c, o, _, k1, _⟩
    · exact h
    · exact (hone c o k1).elim

/-- the steps' row, if it is looked at: what is known of it, where it lies -/
inductive RowK (Y : Sy) (ρ : Rho) (n : Nat) (W : World) : List (Nat × AObj) → List Nat → Option AE.Loc → Prop where
  | none : RowK Y ρ n W [] [] none
  | row (l : List AV) (L : AE.Loc) (arr : Array Value) (elem : TypeId) (fz : Nat × Nat) (hb : L.blk < n) (h : W.heap[L.blk]? = some (Obj.cells arr elem fz)) (hl : L.sh + l.length ≤ arr.size)
      (hc : ∀ i v, l[i]? = some v → isCell v = true ∧ ∃ cv, conc Y ρ v = some cv ∧ arr[L.sh + i]? = some cv) : RowK Y ρ n W [(1, rowP l)] [1] (some L)

/-- where the blocks lie: the realm's, the plan's box, the steps' row -/
def rho2 (ρ : Rho) (bx : Nat) (Lr : Option AE.Loc) : Rho := fun b => if b = 2 then some ⟨bx, 0, 0⟩ else if b = 1 then Lr else ρ b

theorem putAll_app (l m : List (Nat × AObj)) (t : T AObj) : putAll (l ++ m) t = putAll m (putAll l t) := by
  induction l generalizing t with
  | nil => rfl
  | cons x r ih => exact ih (putO t x.1 x.2)

theorem new_nums {b : Nat} {o : AObj} (h : (b, o) ∈ madeS.new) : 3 ≤ b ∧ b < 475 := by
  have := List.all_eq_true.1 nums_made _ h
  simp only [Bool.and_eq_true] at this
  exact ⟨Nat.le_of_ble_eq_true this.1, (blt_iff _ _).1 this.2⟩

theorem heap_ok {w W : World} {ρ : Rho} {p : List AV} {pv : List Value} {row : List (Nat × AObj)} {pr : List Nat} {Lr : Option AE.Loc} {n1 : Nat}
    (hr : Rel Y env ρ ⟨putAll madeS.new .nil, 475, [], []⟩ W) (hn : ∀ b L, ρ b = some L → 3 ≤ b ∧ b < 475 ∧ n1 ≤ L.blk) (h1 : w.heap.size < n1) (hb : Below w.heap.size w W)
    (hbox : W.heap[w.heap.size]? = some (.cells pv.toArray 28 (0, 0))) (hlt : w.heap.size < W.heap.size) (hcell : p.all isCell = true)
    (hp : concs Y (rho2 ρ w.heap.size Lr) p = some pv) (hrow : RowK Y (rho2 ρ w.heap.size Lr) w.heap.size W row pr Lr) :
    Rel Y env (rho2 ρ w.heap.size Lr) (heapP p row pr) W ∧ Base w (rho2 ρ w.heap.size Lr) (heapP p row pr) W := by
  have e2 : rho2 ρ w.heap.size Lr 2 = some ⟨w.heap.size, 0, 0⟩ := by unfold rho2; rw [if_pos rfl]
  have e1 : rho2 ρ w.heap.size Lr 1 = Lr := by unfold rho2; rw [if_neg (by decide), if_pos rfl]
  have e3 : ∀ b, 3 ≤ b → rho2 ρ w.heap.size Lr b = ρ b := fun b h => by unfold rho2; rw [if_neg (by omega), if_neg (by omega)]
  have hle : ρ.le (rho2 ρ w.heap.size Lr) := fun b L h => by rw [e3 b (hn b L h).1]; exact h
  -- what each block is
  have key : ∀ b o, (heapP p row pr).get b = some o → (b = 2 ∧ o = rowObj p 0) ∨ (b = 1 ∧ (1, o) ∈ row) ∨ (3 ≤ b ∧ H.get ⟨putAll madeS.new .nil, 475, [], []⟩ b = some o) := by
    intro b o hget
    have hm := get_list _ _ _ _ _ hget
    rcases List.mem_cons.1 hm with hq | hq
    · cases hq
      exact .inl ⟨rfl, rfl⟩
    rcases List.mem_append.1 hq with hq2 | hq2
    · cases hrow with
      | none => cases hq2
      | row l L arr elem fz _ _ _ _ =>
        have hq3 := List.mem_singleton.1 hq2
        cases hq3
        exact .inr (.inl ⟨rfl, hq2⟩)
    · refine .inr (.inr ⟨(new_nums hq2).1, ?_⟩)
      have hg : H.get ⟨putAll ((2, rowObj p 0) :: (row ++ madeS.new)) .nil, 600, [], pr⟩ b = some o := hget
      rw [H.get_bare] at hg ⊢
      have e : putAll ((2, rowObj p 0) :: (row ++ madeS.new)) .nil = putAll madeS.new (putAll row (putO .nil 2 (rowObj p 0))) := putAll_app row madeS.new _
      rw [e] at hg
      rcases get_putAll (b := b) madeS.new with ⟨_, o', _, k⟩ | ⟨k, _⟩
      · rw [k] at hg ⊢
        exact hg
      · rw [memF_iff.2 ⟨o, hq2⟩] at k
        cases k
  have hblk : ∀ b o L, (heapP p row pr).get b = some o → rho2 ρ w.heap.size Lr b = some L → (b = 2 ∧ L.blk = w.heap.size) ∨ (b = 1 ∧ L.blk < w.heap.size) ∨ (3 ≤ b ∧ n1 ≤ L.blk) := by
    intro b o L hb' hL
    rcases key b o hb' with ⟨rfl, _⟩ | ⟨rfl, hm⟩ | ⟨h3, _⟩
    · rw [e2] at hL
      cases hL
      exact .inl ⟨rfl, rfl⟩
    · rw [e1] at hL
      cases hrow with
      | none => cases hm
      | row l L' arr elem fz k1 _ _ _ =>
        cases hL
        exact .inr (.inl ⟨rfl, k1⟩)
    · rw [e3 b h3] at hL
      exact .inr (.inr ⟨h3, (hn b L hL).2.2⟩)
  refine ⟨⟨fun b o hb' ha => ?_, fun b c o q L M hb' hc _ _ hL hM e => ?_, fun b hge => ?_, fun b L hL => ?_⟩, ⟨hb.os, hb.tape, hb.output, hb.size, hb.block, fun b o L hb' hw hL => ?_⟩⟩
  · rcases key b o hb' with ⟨rfl, rfl⟩ | ⟨rfl, hm⟩ | ⟨h3, hg⟩
    · refine ⟨_, _, e2, hbox, ?_⟩
      rw [rowObj_eq]
      have hlen := concs_length hp
      refine ⟨_, _, rfl, by simp [hlen], fun h => absurd rfl h, fun i v hv => ?_⟩
      rw [get_ofListV] at hv
      obtain ⟨cv, k1, k2⟩ := concs_getElem hp i v hv
      refine ⟨(List.getElem?_eq_some_iff.1 hv).1, List.all_eq_true.1 hcell v (List.mem_of_getElem? hv), cv, k1, ?_⟩
      simpa using k2
    · cases hrow with
      | none => cases hm
      | row l L arr elem fz k1 k2 k3 k4 =>
        have := List.mem_singleton.1 hm
        cases this
        refine ⟨L, _, e1, k2, arr, elem, fz, rfl, k3, (fun h => by cases h), fun i v hv => ?_⟩
        rw [get_ofListV] at hv
        obtain ⟨q1, q2⟩ := k4 i v hv
        exact ⟨(List.getElem?_eq_some_iff.1 hv).1, q1, q2⟩
    · obtain ⟨L, ob, k1, k2, k3⟩ := hr.obj b o hg ha
      exact ⟨L, ob, hle _ _ k1, k2, k3.mono hle⟩
  · rcases hblk b o L hb' hL with ⟨rfl, q1⟩ | ⟨rfl, q1⟩ | ⟨h3, q1⟩
    · rcases hblk c q M hc hM with ⟨rfl, q2⟩ | ⟨rfl, q2⟩ | ⟨h4, q2⟩
      · rfl
      · omega
      · omega
    · rcases hblk c q M hc hM with ⟨rfl, q2⟩ | ⟨rfl, q2⟩ | ⟨h4, q2⟩
      · omega
      · rfl
      · omega
    · rcases hblk c q M hc hM with ⟨rfl, q2⟩ | ⟨rfl, q2⟩ | ⟨h4, q2⟩
      · omega
      · omega
      · rcases key b o hb' with ⟨rfl, _⟩ | ⟨rfl, _⟩ | ⟨_, g1⟩
        · omega
        · omega
        rcases key c q hc with ⟨rfl, _⟩ | ⟨rfl, _⟩ | ⟨_, g2⟩
        · omega
        · omega
        rw [e3 b h3] at hL
        rw [e3 c h4] at hM
        exact hr.inj b c o q L M g1 g2 (by assumption) (by assumption) hL hM e
  · have : 600 ≤ b := hge
    rw [e3 b (by omega)]
    exact hr.fresh b (by show 475 ≤ b; omega)
  · by_cases h2 : b = 2
    · subst h2
      rw [e2] at hL
      cases hL
      exact hlt
    · by_cases h3 : b = 1
      · subst h3
        rw [e1] at hL
        cases hrow with
        | none => cases hL
        | row l L' arr elem fz k1 _ _ _ =>
          cases hL
          omega
      · have : rho2 ρ w.heap.size Lr b = ρ b := by unfold rho2; rw [if_neg h2, if_neg h3]
        rw [this] at hL
        exact hr.bound b L hL
  · rcases hblk b o L hb' hL with ⟨rfl, q1⟩ | ⟨rfl, q1⟩ | ⟨h3, q1⟩
    · omega
    · exfalso
      have hp1 : memN pr 1 = false := wr_prot hw
      rcases key 1 o hb' with ⟨h, _⟩ | ⟨_, hm⟩ | ⟨h, _⟩
      · omega
      · cases hrow with
        | none => cases hm
        | row l L' arr elem fz _ _ _ _ => cases hp1
      · omega
    · omega

theorem shape3 : fn3.body = some body3 := by
  have h : (match fn3.body with | some _ => true | none => false) = true := by kernel_rfl
  unfold body3
  revert h
  generalize fn3.body = x
  cases x with
  | none => intro h; cases h
  | some f => intro _; rfl

theorem live_bits {t : Nat} (h : Nat.testBit 2305843146652713455 t = true) : t = 0 ∨ t = 1 ∨ t = 2 ∨ t = 3 ∨ t = 5 ∨ t = 6 ∨ t = 7 ∨ t = 8 ∨ t = 16 ∨ t = 37 ∨ t = 61 := by
  have hlt : t < 62 := by
    rcases Nat.lt_or_ge t 62 with h' | h'
    · exact h'
    · rw [Nat.testBit_lt_two_pow (Nat.lt_of_lt_of_le (show (2305843146652713455 : Nat) < 2 ^ 62 by decide) (Nat.pow_le_pow_right (by omega) h'))] at h
      cases h
  have := (show ∀ t < 62, Nat.testBit 2305843146652713455 t = true → t = 0 ∨ t = 1 ∨ t = 2 ∨ t = 3 ∨ t = 5 ∨ t = 6 ∨ t = 7 ∨ t = 8 ∨ t = 16 ∨ t = 37 ∨ t = 61 by decide) t hlt h
  exact this

/-- the frame behind the test -/
structure FrameP (pv : List Value) (bx : Nat) (A : Addr) (a : Act) : Prop where
  t0 : a.tmps.getD 0 undef = .agg pv.toArray
  t1 : a.tmps.getD 1 undef = .pointer (some ⟨bx, 0, none⟩)
  t2 : a.tmps.getD 2 undef = .bool false
  t3 : a.tmps.getD 3 undef = .pointer (some A)
  t5 : a.tmps.getD 5 undef = undef
  t6 : a.tmps.getD 6 undef = undef
  t7 : a.tmps.getD 7 undef = undef
  t8 : a.tmps.getD 8 undef = undef
  t16 : a.tmps.getD 16 undef = .bool false
  t37 : a.tmps.getD 37 undef = undef
  t61 : a.tmps.getD 61 undef = undef
  size : a.tmps.size = 80
  defs : a.defers = []

theorem tm_get (p : List AV) : tget (tmP p) 0 = .agg p ∧ tget (tmP p) 1 = .ptr 2 0 ∧ tget (tmP p) 2 = .bool false ∧ tget (tmP p) 3 = .ptr 11 0 ∧ tget (tmP p) 5 = undefA ∧ tget (tmP p) 6 = undefA ∧ tget (tmP p) 7 = undefA ∧ tget (tmP p) 8 = undefA ∧ tget (tmP p) 16 = .bool false ∧ tget (tmP p) 37 = undefA ∧ tget (tmP p) 61 = undefA := ⟨rfl, rfl, rfl, rfl, rfl, rfl, rfl, rfl, rfl, rfl, rfl⟩

theorem conc_undef (ρ : Rho) : conc Y ρ undefA = some undef := rfl

theorem rest_ok {os : List Orc} {ss : List Sum} {w W : World} {ρ : Rho} {p : List AV} {pv : List Value} {row : List (Nat × AObj)} {pr : List Nat} {bx : Nat} {A : Addr} {a : Act}
    (hE : EnvOk Y (envO env [] os)) (hss : SumsOk Y (envO env [] os) ss) (hrun : runP (envO env [] os) ss p row pr = true)
    (hr : Rel Y env ρ (heapP p row pr) W) (hb : Base w ρ (heapP p row pr) W) (hp : concs Y ρ p = some pv) (hcell : p.all isCell = true) (h2 : ρ 2 = some ⟨bx, 0, 0⟩) (h11 : ∃ L, ρ 11 = some L ∧ A = L.addr 0) (ha : FrameP pv bx A a) :
    Code.wp Tryz.prog restC (bodyPost Tryz.prog Tryz.f3 fun e w' => e = .returned (.bool true) ∧ Below w.heap.size w w') a W := by
  have hkn : KnownOk Y (envO env [] os) livesK := KnownOk.cons (by show hasBody env 6 = true; kernel_rfl) ((lives_gives Y).envO [] os) KnownOk.nil
  have hfr : FR Y ρ (lvOf (envO env [] os) fn3) fn3.ntmps (tmP p) [] a := by
    refine ⟨fun t ht => ?_, by rw [ha.size]; kernel_rfl, by rw [ha.defs]; trivial⟩
    obtain ⟨g0, g1, g2, g3, g5, g6, g7, g8, g16, g37, g61⟩ := tm_get p
    have ht' : Nat.testBit 2305843146652713455 t = true := by rw [← live3]; exact ht
    rcases live_bits ht' with rfl | rfl | rfl | rfl | rfl | rfl | rfl | rfl | rfl | rfl | rfl
    · rw [g0, ha.t0]
      simp only [conc, hcell, if_true, hp]
    · rw [g1, ha.t1]
      simp [conc, h2, Loc.addr]
    · rw [g2, ha.t2]; rfl
    · rw [g3, ha.t3]
      obtain ⟨L, k1, rfl⟩ := h11
      simp [conc, k1]
    · rw [g5, ha.t5]; rfl
    · rw [g6, ha.t6]; rfl
    · rw [g7, ha.t7]; rfl
    · rw [g8, ha.t8]; rfl
    · rw [g16, ha.t16]; rfl
    · rw [g37, ha.t37]; rfl
    · rw [g61, ha.t61]; rfl
  have hrel : Rel Y (envO env [] os) ρ (heapP p row pr) W := ⟨fun b o h h' => by
    obtain ⟨L, ob, k1, k2, k3⟩ := hr.obj b o h h'
    exact ⟨L, ob, k1, k2, by cases o <;> exact k3⟩, hr.inj, hr.fresh, hr.bound⟩
  have hstep := stepB (Y := Y) (E := envO env [] os) (n := 0) rfl (codes_ok hE (f := 3) (fn := fn3) (lf := 300) ft3 restC) (evSm_ok hE hkn hss 300 99) (w0 := w) (a := a) (w := W) (kn := noK') (ke := fun _ => noK') (kr := resK (envO env [] os) fn3 fun v => sameV v (.bool true))
    ⟨ρ, heapP p row pr, tmP p, [], hrel, hfr, hb, hrun⟩
  refine (wpIn_wide (n := 0)).1 (wpIn_mono hstep fun e a' w' hq => ?_)
  cases e with
  | normal => obtain ⟨_, _, _, _, _, _, _, h⟩ := hq; cases h
  | exit id => obtain ⟨_, _, _, _, _, _, _, h⟩ := hq; cases h
  | ret =>
    obtain ⟨q1, v, av, ρ', q2, q3, q4, q5⟩ := resK_ok hE hq
    obtain ⟨rfl, _⟩ := sameV_eq (Y := Y) q4
    cases q3
    exact bodyPost_ret (v := .bool true) (by rw [fn3_eq]; exact q2) q1 ⟨rfl, q5⟩
  | goto l => exact hq.elim
  | panic ch => exact hq.elim
  | outgrown => exact hq.elim

/-- a plan that is right: a path that its run follows -/
structure PathY (Y : Sy) (w : World) (pv : List Value) : Prop where
  ex : ∃ (os : List Orc) (ss : List Sum) (p : List AV) (row : List (Nat × AObj)) (pr : List Nat) (Lr : Option AE.Loc), EnvOk Y (envO env [] os) ∧ SumsOk Y (envO env [] os) ss ∧ runP (envO env [] os) ss p row pr = true ∧ p.all isCell = true ∧
    (∀ ρ : Rho, ρ 1 = Lr → concs Y ρ p = some pv) ∧ ∀ ρ : Rho, ρ 1 = Lr → ∀ W, Below w.heap.size w W → RowK Y ρ w.heap.size W row pr Lr

theorem box14 {w W : World} {a0 a1 a2 a3 a4 a5 a6 a7 a8 a9 a10 a11 a12 a13 : Value} (h : BoxR w #[a0, a1, a2, a3, a4, a5, a6, a7, a8, a9, a10, a11, a12, a13] W) :
    W.cell? ⟨w.heap.size, 0, none⟩ = some a0 ∧ W.cell? ⟨w.heap.size, 1, none⟩ = some a1 ∧ W.cell? ⟨w.heap.size, 2, none⟩ = some a2 ∧ W.cell? ⟨w.heap.size, 3, none⟩ = some a3 ∧ W.cell? ⟨w.heap.size, 4, none⟩ = some a4 ∧ W.cell? ⟨w.heap.size, 5, none⟩ = some a5 ∧ W.cell? ⟨w.heap.size, 6, none⟩ = some a6 ∧ W.cell? ⟨w.heap.size, 7, none⟩ = some a7 ∧
    W.cell? ⟨w.heap.size, 8, none⟩ = some a8 ∧ W.cell? ⟨w.heap.size, 9, none⟩ = some a9 ∧ W.cell? ⟨w.heap.size, 10, none⟩ = some a10 ∧ W.cell? ⟨w.heap.size, 11, none⟩ = some a11 ∧ W.cell? ⟨w.heap.size, 12, none⟩ = some a12 ∧ W.cell? ⟨w.heap.size, 13, none⟩ = some a13 :=
  ⟨h.cell 0, h.cell 1, h.cell 2, h.cell 3, h.cell 4, h.cell 5, h.cell 6, h.cell 7, h.cell 8, h.cell 9, h.cell 10, h.cell 11, h.cell 12, h.cell 13⟩

theorem wp_turn {c c' : Code} {P : Program} {Q : Exit → Act → World → Prop} {a : Act} {w : World} (e : c' = c) (h : c'.wp P Q a w) : c.wp P Q a w := e ▸ h

theorem lives_ret (w : World) : Calls Tryz.prog 6 #[] w fun e w' => e = .returned (.bool true) ∧ Below w.heap.size w w' :=
  (lives_gives ⟨fun _ => 0, fun _ => .empty, fun _ => (none, 0, 0), fun _ => undef⟩ w [] rfl).mono fun e w' he => by
    obtain ⟨cv, rfl, hc, hb⟩ := he
    cases hc
    exact ⟨rfl, hb⟩

set_option maxHeartbeats 1000000 in
theorem law_ret (m n r : Int) (it bye : ToldL) (xs : List ToldL) (v : Value) (w : World) (hs : SlAt w w.heap.size 5 v (xs.map toldC)) (hR : RightP m n r it bye xs → PathY Y w (planC m n r it bye v).toList) :
    Calls Tryz.prog 3 #[.agg (planC m n r it bye v)] w fun e w' => e = .returned (.bool true) ∧ Below w.heap.size w w' := by
  have HB0 := Lib.hid (BoxR.new w (planC m n r it bye v) 28)
  have hbx : (w.alloc (.cells (planC m n r it bye v) 28)).heap[w.heap.size]? = some (.cells (planC m n r it bye v) 28 (0, 0)) := heap_alloc_new w _
  have HS := Lib.hid fun W (hb : Below w.heap.size w W) => right_ret m n r it bye xs v w.heap.size W hb.size (hs.below hb)
  clear hs
  obtain ⟨k1, d1, v1, n1, s1⟩ := it
  obtain ⟨k2, d2, v2, n2, s2⟩ := bye
  unfold planC at *
  dsimp only at *
  have HR := Lib.hid hR
  clear hR
  go_enter Tryz.func3, Tryz.ntmps3
  refine wp_seq ?_
  generalize hQ1 : Exit.then _ _ = Q1
  go_wp2
  subst hQ1
  simp only [Exit.then]
  refine wp_seq ?_
  generalize hQ1 : Exit.then _ _ = Q1
  have HX := Lib.hid hbx
  clear hbx
  go_wp2_with (first
    | (go_at_call 4; refine (made_ret (Y := Y) _).mono ?_; rintro e w1 hm; obtain ⟨ρ, A, rfl, hA, hrel, hn⟩ := hm.ex; have hb1 := Lib.hid hm.bel; clear hm; replace hA := Lib.hid hA; replace hrel := Lib.hid hrel; replace hn := Lib.hid hn)
    | fail)
  subst hQ1
  simp only [Exit.then]
  refine wp_seq ?_
  generalize hQ1 : Exit.then _ _ = Q1
  have hx1 := Lib.hid (HB0.out.step hb1.out)
  obtain ⟨c0, c1, c2, c3, c4, c5, c6, c7, c8, c9, c10, c11, c12, c13⟩ := box14 hx1.out
  go_wp2_with (first
    | (go_at_call 5; refine (HS.out _ hx1.out.bel).mono ?_; rintro e w2 ⟨hr, hb2⟩; obtain ⟨b, rfl, hp⟩ := hr.ex; clear hr c0 c1 c2 c3 c4 c5 c6 c7 c8 c9 c10 c11 c12 c13; replace hb2 := Lib.hid hb2; cases b)
    | (go_at_call 6; refine (lives_ret _).mono ?_; rintro e w3 ⟨rfl, hb3⟩)
    | fail)
  · subst hQ1
    simp only [Exit.then]
    go_ret
    exact ⟨rfl, (hx1.out.bel.trans (hb2.out.mono hx1.out.bel.size)).trans (hb3.mono (Nat.le_trans hx1.out.bel.size hb2.out.size))⟩
  · subst hQ1
    simp only [Exit.then]
    refine wp_turn (c' := restC) (by kernel_rfl) ?_
    have hbw : Below w.heap.size w w2 := hx1.out.bel.trans (hb2.out.mono hx1.out.bel.size)
    have hx2 := hx1.out.step hb2.out
    obtain ⟨os, ss, p, row, pr, Lr, hE, hss, hrun, hcell, hpv, hrow⟩ := (HR.out (hp (by first | rfl | trivial))).ex
    have hrel2 := (Goes.of_below hrel.out hb2.out).rel
    have hρ : ∀ ρ : Rho, rho2 ρ w.heap.size Lr 1 = Lr := fun ρ => by unfold rho2; rw [if_neg (by decide), if_pos rfl]
    have hbox : w2.heap[w.heap.size]? = some (.cells #[.int .i64 m, .int .i64 n, .int .i64 r, .int .i64 k1, .bool d1, .int .i64 v1, .int .i64 n1, .string s1, .int .i64 k2, .bool d2, .int .i64 v2, .int .i64 n2, .string s2, v] 28 (0, 0)) := by
      rw [hb2.out.block _ hx1.out.lt, hb1.out.block _ (by simp)]
      exact HX.out
    obtain ⟨g1, g2⟩ := heap_ok (n1 := w.heap.size + 1) hrel2 (fun b L h => by have := hn.out b L h; simpa using this) (Nat.lt_succ_self _) hbw hbox hx2.lt hcell (hpv _ (hρ ρ)) (hrow _ (hρ ρ) w2 hbw)
    refine rest_ok (bx := w.heap.size) (A := A) hE hss hrun g1 g2 (hpv _ (hρ ρ)) hcell (by unfold rho2; rw [if_pos rfl]) ?_ ⟨rfl, rfl, rfl, rfl, rfl, rfl, rfl, rfl, rfl, rfl, rfl, rfl, rfl⟩
    obtain ⟨L, q1, q2⟩ := hA.out
    exact ⟨L, by unfold rho2; rw [if_neg (by decide), if_neg (by decide)]; exact q1, q2⟩

end
end Go.Proofs.YtianjdlnljhgoaaGreatDoor
