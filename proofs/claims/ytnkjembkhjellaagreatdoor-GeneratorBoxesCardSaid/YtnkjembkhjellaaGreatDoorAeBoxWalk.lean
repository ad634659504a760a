/-
  GeneratorBoxes: the walk of its first loop.
-/
import Derived.Test.YtnkjembkhjellaaGreatDoorAeBoxPre
namespace Go.AE

section
variable {Y : Sy} {E : Env} {w : World}

/-- at a head with no block other symbols may be chosen -/
theorem At.fresh {Y' : Sy} {w0 : World} {L L' : Lv} {nt : Nat} {s s' : Hd} {a : Act} (hat : At Y E w0 L nt s a w) (he : s'.ents = []) (hn : s'.next = 0) (hp : s'.prot = [])
    (ht : ∀ t, Nat.testBit L'.live t = true → conc Y' (fun _ => none) (tget s'.tmT t) = some (a.tmps.getD t undef)) : At Y' E w0 L' nt s' a w := by
  obtain ⟨ρ, hr, hf, hb⟩ := hat
  have hh : s'.heap = ⟨.nil, 0, [], []⟩ := by unfold Hd.heap; rw [he, hn, hp]; rfl
  have hnone : ∀ b, H.get s'.heap b = none := fun b => by rw [hh, H.get_eq]; rfl
  refine ⟨fun _ => none, ⟨fun b o h _ => ?_, fun b c o p L M h => ?_, fun _ _ => rfl, fun b L h => by cases h⟩, ⟨ht, hf.size, ?_⟩, ⟨hb.os, hb.tape, hb.output, hb.size, hb.old, fun b o L h => ?_⟩⟩
  · rw [hnone] at h; cases h
  · rw [hnone] at h; cases h
  · have := hf.defs
    cases hde : a.defers with
    | nil => trivial
    | cons x y => rw [hde] at this; exact this.elim
  · rw [hnone] at h; cases h

/-- the temporaries of a mask: some that are listed, all others opaque -/
noncomputable def opqAll (live : Nat) (ex : List Nat) (tm : T AV) (K : Nat) : Bool :=
  (List.range K).all fun t => !Nat.testBit live t || (memN ex t || (match tget tm t with | .opq (.var i) => Nat.beq i t | _ => false))

theorem opqAll_ok {live K : Nat} {ex : List Nat} {tm : T AV} (hK : Nat.blt live (Nat.pow 2 K) = true) (h : opqAll live ex tm K = true) {t : Nat} (ht : Nat.testBit live t = true) : t ∈ ex ∨ tget tm t = .opq (.var t) := by
  have hK' : t < K := by
    rcases Nat.lt_or_ge t K with h | h
    · exact h
    · have hl := (blt_iff _ _).1 hK
      have : Nat.testBit live t = false := Nat.testBit_lt_two_pow (Nat.lt_of_lt_of_le hl (Nat.pow_le_pow_right (by omega) h))
      rw [this] at ht
      cases ht
  unfold opqAll at h
  rw [List.all_eq_true] at h
  have := h t (List.mem_range.2 hK')
  rw [ht] at this
  simp only [Bool.not_true, Bool.false_or, Bool.or_eq_true] at this
  rcases this with h1 | h1
  · exact .inl ((memN_iff _ _).1 h1)
  · right
    split at h1
    · rename_i i hi
      rw [hi, Nat.eq_of_beq_eq_true h1]
    · cases h1

end
end Go.AE

namespace Go.Proofs.YtnkjembkhjellaaGreatDoor
open Go.AE
set_option maxRecDepth 100000

theorem ft3 : env.ft.get 3 = some fn3 := by
  have h : (match env.ft.get 3 with | some _ => true | none => false) = true := by kernel_rfl
  unfold fn3
  revert h
  generalize env.ft.get 3 = x
  cases x with
  | none => intro h; cases h
  | some f => intro _; rfl

theorem LL_eq : LL = ⟨liveB, 0⟩ := by kernel_rfl
theorem live_lt : Nat.blt liveB (Nat.pow 2 147) = true := by kernel_rfl
theorem ngE : env.ng = 0 := rfl

theorem opq_hA : opqAll liveB [0, 11, 12, 13] hA.tmT 147 = true := by kernel_rfl
theorem opq_hAr : opqAll liveB [0, 11, 12, 13] hAr.tmT 147 = true := by kernel_rfl
theorem opq_hP : opqAll liveB [0] hP.tmT 147 = true := by kernel_rfl

theorem cl_ok (Y : Sy) (c : Code) : CodeOk Y env LL fn3.ntmps c (cl c) := codes_ok (env_ok Y) ft3 c
theorem rc0_ok (Y : Sy) : RecOk Y env rc0 := evSm_ok (env_ok Y) KnownOk.nil SumsOk.nil 300 99

/-- an element of the slice that is given -/
structure Elem where
  k : Int
  n : Int
  s : ByteArray

def Elem.cells (x : Elem) : List Value := [.int .i64 x.k, .int .i64 x.n, .string x.s]

/-- what lies in memory -/
structure Elems (w0 : World) (sl : Option Addr × Nat × Nat) (xs : List Elem) : Prop where
  len : xs.length = sl.2.1
  most : sl.2.1 ≤ 9223372036854775807
  fits : ∀ x ∈ xs, fits x.k x.n x.s
  mem : xs = [] ∨ ∃ A : Addr, sl.1 = some A ∧ A.block < w0.heap.size ∧ ∀ (i : Nat) (x : Elem), xs[i]? = some x → ∀ j v, x.cells[j]? = some v → w0.cell? ((A.add (i * 3)).add j) = some v

def goodE (x : Elem) : Prop := gB.has x.k x.n x.s

theorem cell_same {w0 w : World} {A : Addr} (h : w.heap[A.block]? = w0.heap[A.block]?) : w.cell? A = w0.cell? A := by
  unfold World.cell?
  rw [h]

theorem add_block (A : Addr) (i : Nat) : (A.add i).block = A.block := by
  unfold Addr.add
  split <;> rfl

section
variable {w0 : World} {sl : Option Addr × Nat × Nat} {xs : List Elem} {a : Act} {w : World}

/-- in front of a round of the first loop -/
def InvA (w0 : World) (sl : Option Addr × Nat × Nat) (xs : List Elem) (μ : Nat) (a : Act) (w : World) : Prop :=
  ∃ (i : Nat) (Y : Sy), i ≤ xs.length ∧ μ = xs.length - i ∧ Y.sls 0 = sl ∧ Y.ints 1000 = i ∧ (∀ j x, j < i → xs[j]? = some x → goodE x) ∧ At Y env w0 ⟨liveB, 0⟩ fn3.ntmps hA a w

/-- behind it -/
def OutA (w0 : World) (sl : Option Addr × Nat × Nat) (xs : List Elem) (a : Act) (w : World) : Prop :=
  (∀ x ∈ xs, goodE x) ∧ ∃ Y : Sy, Y.sls 0 = sl ∧ At Y env w0 ⟨liveB, 0⟩ fn3.ntmps hP a w

theorem conc_slice0 {Y : Sy} {sl : Option Addr × Nat × Nat} (hY : Y.sls 0 = sl) (hm : sl.2.1 ≤ 9223372036854775807) (ρ : Rho) : conc Y ρ sliceB0 = some (.slice sl.1 sl.2.1 sl.2.2) := by
  unfold sliceB0
  simp only [conc]
  rw [if_pos ⟨Nat.zero_le _, by rw [hY]; exact hm⟩, hY]
  rfl

/-- the frame of a head of this loop, read off other values for the symbols -/
theorem fresh_tms {Y : Sy} {s : Hd} (i : Int) (lo hi : Int) (hm : sl.2.1 ≤ 9223372036854775807) (hY : Y.sls 0 = sl) (h0 : a.tmps.getD 0 undef = .slice sl.1 sl.2.1 sl.2.2) (h11 : a.tmps.getD 11 undef = .slice sl.1 sl.2.1 sl.2.2) (h12 : a.tmps.getD 12 undef = .int .i64 sl.2.1) (h13 : a.tmps.getD 13 undef = .int .i64 i)
    (ho : ∀ t, Y.ops t = a.tmps.getD t undef) (hint : Y.ints 1000 = i) (h1 : lo ≤ i) (h2 : i ≤ hi) (hq : opqAll liveB [0, 11, 12, 13] s.tmT 147 = true)
    (g0 : tget s.tmT 0 = sliceB0) (g11 : tget s.tmT 11 = sliceB0) (g12 : tget s.tmT 12 = .sint .i64 (.slen 0) 0 9223372036854775807) (g13 : tget s.tmT 13 = .sint .i64 (.var 1000) lo hi) :
    ∀ t, Nat.testBit liveB t = true → conc Y (fun _ => none) (tget s.tmT t) = some (a.tmps.getD t undef) := by
  intro t ht
  rcases opqAll_ok live_lt hq ht with h | h
  · simp only [List.mem_cons, List.not_mem_nil, or_false] at h
    rcases h with rfl | rfl | rfl | rfl
    · rw [g0, h0]; exact conc_slice0 hY hm _
    · rw [g11, h11]; exact conc_slice0 hY hm _
    · rw [g12, h12]
      have e : SX.val Y (.slen 0) = (sl.2.1 : Int) := by show ((Y.sls 0).2.1 : Int) = _; rw [hY]
      simp only [conc, e]
      rw [if_pos ⟨by omega, by omega⟩]
    · rw [g13, h13]
      have e : SX.val Y (.var 1000) = i := hint
      simp only [conc, e]
      rw [if_pos ⟨h1, h2⟩]
  · rw [h]
    simp only [conc, Q.val, ho]

theorem flA2_eq : flushOf LL fn3.ntmps (([] : List Oper).map (fun o => o.dst) |>.reverse |>.append [some 14]) 0 [] = some flA2 := by kernel_rfl
theorem keepAb_in : Nat.beq (Nat.land keepAb LL.live) keepAb = true := by kernel_rfl
theorem keepA_in : Nat.beq (Nat.land keepA LL.live) keepA = true := by kernel_rfl
theorem sizeLt : Nat.blt 16 fn3.ntmps = true := by kernel_rfl

/-- the first loop's test -/
theorem test_ok {Y : Sy} {i : Nat} (hY : Y.sls 0 = sl) (hi : Y.ints 1000 = i) (hm : sl.2.1 ≤ 9223372036854775807) (hat : At Y env w0 ⟨liveB, 0⟩ fn3.ntmps hA a w) {Q : Exit → Act → World → Prop}
    (hQ : ∀ a' w', At Y env w0 ⟨keepAb, 0⟩ fn3.ntmps (hAb (ltI i sl.2.1)) a' w' → Q .normal a' w') : cA2.wpIn (fence none) 0 env.P Q a w := by
  have h12 : a.tmps.getD 12 undef = .int .i64 (sl.2.1 : Int) := hat.tmp (t := 12) (by decide) (v := .sint .i64 (.slen 0) 0 9223372036854775807) (by kernel_rfl) fun ρ => by
    have e : SX.val Y (.slen 0) = (sl.2.1 : Int) := by show ((Y.sls 0).2.1 : Int) = _; rw [hY]
    simp only [conc, e]
    rw [if_pos ⟨by omega, by omega⟩]
    exact .inl rfl
  have h13 : a.tmps.getD 13 undef = .int .i64 (i : Int) := hat.tmp (t := 13) (by decide) (v := .sint .i64 (.var 1000) 0 9223372036854775807) (by kernel_rfl) fun ρ => by
    have e : SX.val Y (.var 1000) = (i : Int) := hi
    simp only [conc, e]
    split
    · exact .inl rfl
    · exact .inr rfl
  have hat' : At Y env w0 LL fn3.ntmps hA a w := by rw [LL_eq]; exact hat
  obtain ⟨ρ, hr, hf, hb⟩ := hat'
  rw [shapeA2]
  refine wpIn_region ?_
  show wpOpsIn (fence none) 0 env.P #[opN cA2 0] Q (List.range' 0 (0 + 1)) a w
  have hok := cOp_ok (Y := Y) (env_ok Y) (opN cA2 0)
  rw [op20.1] at hok
  obtain ⟨cv, k1, k2⟩ := hok ρ a.eval w (.i64 (i : Int)) (.i64 (sl.2.1 : Int)) (.bool (ltI i sl.2.1)) (by show _ = some (a.tmps.getD 13 undef); rw [h13]; rfl) (by show _ = some (a.tmps.getD 12 undef); rw [h12]; rfl) rfl
  have hcv : cv = .bool (ltI i sl.2.1) := by cases k2; rfl
  subst hcv
  refine stepV (m := 0) (o := opN cA2 0) rfl op20.2.1 (fun c h => by rw [op20.1] at h; cases h) k1 ?_
  have hsz : 14 < a.tmps.size := by rw [hf.size]; have := (blt_iff _ _).1 sizeLt; omega
  rw [op20.2.2]
  refine region_from (i := 1) (l := []) (ds := [some 14]) (env := [.bool (ltI i sl.2.1)]) (tm := hA.tmT) (fl := flA2) (k := fit keepAb 147 (hAb (ltI i sl.2.1))) (env_ok Y) ngE (rc0_ok Y) (by rw [LL_eq]; rfl) rfl flA2_eq rfl hr ?_ (by rw [put_size]; exact hf.size) (by rw [put_defers]; exact hf.defs) hb (testA_run _) fun a' w' h => hQ a' w' (h.at_less keepAb_in)
  exact (ERel.start hf.tmps).put rfl fun d hd => by cases hd; exact hsz

theorem flA3_eq : flushOf LL fn3.ntmps ((([opN cA3 2, opN cA3 3]).map fun o => o.dst).reverse ++ [some 16, some 15]) 0 [] = some flA3 := by kernel_rfl
theorem noDf3 : (([opN cA3 2, opN cA3 3].map fun o => isDf (cOp env o.op)).reverse.all fun b => !b) = true := by kernel_rfl
theorem hasA4 : hasBody env 4 = true := by kernel_rfl
theorem hasA5 : hasBody env 5 = true := by kernel_rfl

/-- the symbols of a round: its number, the element -/
def syR (sl : Option Addr × Nat × Nat) (i : Nat) (x : Elem) (p : Value) (a : Act) : Sy :=
  ⟨fun j => if j = 2000 then x.k else if j = 2001 then x.n else i, fun _ => x.s, fun _ => sl, fun t => if t = 15 then p else a.tmps.getD t undef⟩

theorem vAV_ok {i : Nat} {x : Elem} {p : Value} {c : Cl} (hf : fits x.k x.n x.s) (hc : c.has x.k x.n x.s) (ρ : Rho) : conc (syR sl i x p a) ρ (vAV c) = some (vC x.k x.n x.s) :=
  conc_vA (Y := syR sl i x p a) (i := 2000) (j := 2001) (s := 90) hc.1 hc.2.1 hf.2.1.1 hf.2.1.2 hc.2.2.1 hc.2.2.2.1

theorem rcA_ok {i : Nat} {x : Elem} {p : Value} {c : Cl} (hf : fits x.k x.n x.s) (hc : c.has x.k x.n x.s) : RecOk (syR sl i x p a) env (rcA c) := by
  refine evSm_ok (env_ok _) ((KnownOk.nil.cons hasA5 (goes_gives _)).cons hasA4 ?_) SumsOk.nil 300 99
  have := may_ret x.k x.n x.s hf.1 hf.2.1 hf.2.2
  rw [hc.2.2.2.2] at this
  exact Gives.of_returns this (concs_cons.2 ⟨_, _, vAV_ok hf hc _, rfl, rfl⟩) rfl

/-- an element is read and tested -/
theorem elem_ok {i : Nat} {x : Elem} {c : Cl} {kn kr' : KT} {A : Addr} (hi : i < sl.2.1) (hsl : sl.1 = some A) (hcell : ∀ j v, x.cells[j]? = some v → w.cell? ((A.add (i * 3)).add j) = some v)
    (hf : fits x.k x.n x.s) (hc : c.has x.k x.n x.s) (hrun : roundA c kn kr' = true) (hat : At (syR sl i x (.pointer (some (A.add (i * 3)))) a) env w0 ⟨liveB, 0⟩ fn3.ntmps hAr a w) {Q : Exit → Act → World → Prop}
    (h11 : a.tmps.getD 11 undef = .slice sl.1 sl.2.1 sl.2.2) (h13 : a.tmps.getD 13 undef = .int .i64 (i : Int))
    (hn : ∀ a' w', LeavesB (syR sl i x (.pointer (some (A.add (i * 3)))) a) env w0 LL fn3.ntmps kn a' w' → Q .normal a' w') (hret : ∀ a' w', LeavesB (syR sl i x (.pointer (some (A.add (i * 3)))) a) env w0 LL fn3.ntmps kr' a' w' → Q .ret a' w') :
    (Code.seq cA3 cAT).wpIn (fence none) 0 env.P Q a w := by
  let p : Value := .pointer (some (A.add (i * 3)))
  let Y := syR sl i x p a
  have hat' : At Y env w0 LL fn3.ntmps hAr a w := by rw [LL_eq]; exact hat
  obtain ⟨ρ, hr, hfr, hb⟩ := hat'
  have hsz := (blt_iff _ _).1 sizeLt
  refine wpIn_seq ?_
  rw [shapeA3]
  refine wpIn_region ?_
  show wpOpsIn (fence none) 0 env.P #[opN cA3 0, opN cA3 1, opN cA3 2, opN cA3 3] _ (List.range' 0 (3 + 1)) a w
  have e0 : (execOp a.eval (opN cA3 0)).run env.P w = .ok (.value p) w := by
    have e : execOp a.eval (opN cA3 0) = (do pure (.value (← Instr.indexAt 22 (a.eval (.tmp 11)) (a.eval (.tmp 13)))) : Sem Next) := by simp only [execOp, op30.1]
    rw [e]
    refine run_v (f := fun v => .value v) ?_
    show (Instr.indexAt 22 (a.tmps.getD 11 undef) (a.tmps.getD 13 undef)).run env.P w = _
    rw [h11, h13, hsl]
    exact at_exec hi
  refine stepV (m := 3) (o := opN cA3 0) rfl op30.2.1 (fun c h => by rw [op30.1] at h; cases h) e0 ?_
  rw [op30.2.2]
  have hlt : ∀ d, (some 15 : Option Tmp) = some d → d < a.tmps.size := fun d hd => by
    obtain rfl : d = 15 := (Option.some.inj hd).symm
    show (15 : Nat) < a.tmps.size
    have hsize := hfr.size
    omega
  have hp15 : conc Y ρ (.opq (.var 15)) = some p := by simp only [conc, Go.AE.Q.val]; rfl
  have h15 : (a.put (some 15) p).tmps.getD 15 undef = p := by
    have := (ERel.start hfr.tmps).put (dst := some 15) (v := .opq (.var 15)) (cv := p) hp15 hlt
    have h := this.here 15 0 rfl
    have e : nthA 0 [AV.opq (.var 15)] = .opq (.var 15) := rfl
    rw [e] at h
    rw [hp15] at h
    exact (Option.some.inj h).symm
  have e1 : (execOp (a.put (some 15) p).eval (opN cA3 1)).run env.P w = .ok (.value (vC x.k x.n x.s)) w := by
    have e : execOp (a.put (some 15) p).eval (opN cA3 1) = (do pure (.value (← Instr.loadAt 24 ((a.put (some 15) p).eval (.tmp 15)))) : Sem Next) := by simp only [execOp, op31.1]
    rw [e]
    refine run_v (f := fun v => .value v) ?_
    show (Instr.loadAt 24 ((a.put (some 15) p).tmps.getD 15 undef)).run env.P w = _
    rw [h15]
    exact load_exec (cs := x.cells) rfl hcell
  refine stepV (m := 2) (o := opN cA3 1) rfl op31.2.1 (fun c h => by rw [op31.1] at h; cases h) e1 ?_
  rw [op31.2.2]
  have hs1 : (a.put (some 15) p).tmps.size = fn3.ntmps := by rw [put_size]; exact hfr.size
  refine region_from (i := 2) (l := [opN cA3 2, opN cA3 3]) (ds := [some 16, some 15]) (env := [vAV c, .opq (.var 15)]) (tm := hAr.tmT) (fl := flA3) (k := bodyA c kn kr') (env_ok Y) ngE (rcA_ok hf hc) (by rw [LL_eq]; rfl) rfl flA3_eq noDf3 hr ?_ (by rw [put_size]; exact hs1) (by rw [put_defers, put_defers]; exact hfr.defs) hb hrun fun a' w' h => ?_
  · refine ((ERel.start hfr.tmps).put (dst := some 15) (v := .opq (.var 15)) (cv := p) hp15 hlt).put (dst := some 16) (vAV_ok hf hc ρ) fun d hd => ?_
    obtain rfl : d = 16 := (Option.some.inj hd).symm
    show (16 : Nat) < (a.put (some 15) p).tmps.size
    omega
  · refine wpIn_mono (stepB ngE (cl_ok Y cAT) (rcA_ok hf hc) h) fun e a2 w2 hq => ?_
    cases e with
    | normal => exact hn a2 w2 hq
    | ret => exact hret a2 w2 hq
    | exit id => exact (LeavesB.none hq).elim
    | goto l => exact hq.elim
    | panic ch => exact hq.elim
    | outgrown => exact hq.elim

theorem mayP_kind' {k n : Int} {len : Nat} (h : mayP k n len = true) : 0 ≤ k ∧ k ≤ 9 := mayP_kind h

/-- an element's class -/
theorem elem_cl {x : Elem} (hf : fits x.k x.n x.s) : goodE x ∨ bad0.has x.k x.n x.s ∨ kB.has x.k x.n x.s ∨ lB.has x.k x.n x.s := by
  obtain ⟨h1, h2, h3⟩ := hf
  cases hm : mayP x.k x.n x.s.size with
  | false => exact .inr (.inl ⟨h1.1, h1.2, Nat.zero_le _, h3, hm⟩)
  | true =>
    have hk := mayP_kind hm
    by_cases c : 6 ≤ x.k
    · exact .inr (.inr (.inl ⟨c, hk.2, Nat.zero_le _, h3, hm⟩))
    by_cases d : x.s.size ≤ 500
    · exact .inl ⟨hk.1, by show x.k ≤ 5; omega, Nat.zero_le _, d, hm⟩
    · exact .inr (.inr (.inr ⟨hk.1, by show x.k ≤ 5; omega, by show 501 ≤ x.s.size; omega, h3, hm⟩))

/-- one round of the first loop -/
theorem roundA_ok {Q : Exit → Act → World → Prop} (hX : Elems w0 sl xs) {μ : Nat} (hn : ∀ a' w', (∃ μ', μ' < μ ∧ InvA w0 sl xs μ' a' w') → Q .normal a' w') (he : ∀ a' w', OutA w0 sl xs a' w' → Q (.exit 0) a' w')
    (hret : ∀ a' w' Y', LeavesB Y' env w0 LL fn3.ntmps kr a' w' → Q .ret a' w') (hinv : InvA w0 sl xs μ a w) : cA.wpIn (fence none) 0 env.P Q a w := by
  obtain ⟨i, Y, hi, rfl, hsl, h1000, hgood, hat⟩ := hinv
  have hm := hX.most
  have hlen := hX.len
  rw [shapeA]
  refine wpIn_seq (test_ok hsl h1000 hm hat fun a1 w1 hat1 => ?_)
  have t0 : a1.tmps.getD 0 undef = .slice sl.1 sl.2.1 sl.2.2 := hat1.tmp (t := 0) (by decide) (v := sliceB0) (by cases ltI i sl.2.1 <;> kernel_rfl) fun ρ => .inl (conc_slice0 hsl hm ρ)
  have t11 : a1.tmps.getD 11 undef = .slice sl.1 sl.2.1 sl.2.2 := hat1.tmp (t := 11) (by decide) (v := sliceB0) (by cases ltI i sl.2.1 <;> kernel_rfl) fun ρ => .inl (conc_slice0 hsl hm ρ)
  have t12 : a1.tmps.getD 12 undef = .int .i64 (sl.2.1 : Int) := hat1.tmp (t := 12) (by decide) (v := .sint .i64 (.slen 0) 0 9223372036854775807) (by cases ltI i sl.2.1 <;> kernel_rfl) fun ρ => by
    have e : SX.val Y (.slen 0) = (sl.2.1 : Int) := by show ((Y.sls 0).2.1 : Int) = _; rw [hsl]
    simp only [conc, e]
    rw [if_pos ⟨by omega, by omega⟩]
    exact .inl rfl
  have t13 : a1.tmps.getD 13 undef = .int .i64 (i : Int) := hat1.tmp (t := 13) (by decide) (v := .sint .i64 (.var 1000) 0 9223372036854775807) (by cases ltI i sl.2.1 <;> kernel_rfl) fun ρ => by
    have e : SX.val Y (.var 1000) = (i : Int) := h1000
    simp only [conc, e]
    rw [if_pos ⟨by omega, by omega⟩]
    exact .inl rfl
  have t14 : a1.tmps.getD 14 undef = .bool (ltI i sl.2.1) := hat1.tmp (t := 14) (by decide) (v := .bool (ltI i sl.2.1)) (by cases ltI i sl.2.1 <;> kernel_rfl) fun ρ => .inl rfl
  refine wpIn_seq (wpIn_cond (t := ltI i sl.2.1) t14 ?_)
  cases hlt : ltI (i : Int) (sl.2.1 : Int) with
  | false =>
    rw [ltI_not] at hlt
    refine wpIn_exit (he a1 w1 ⟨fun x hx => ?_, { Y with ops := fun t => a1.tmps.getD t undef }, hsl, ?_⟩)
    · obtain ⟨j, hj⟩ := List.getElem?_of_mem hx
      have : j < xs.length := by
        rcases Nat.lt_or_ge j xs.length with h | h
        · exact h
        · rw [List.getElem?_eq_none h] at hj; cases hj
      exact hgood j x (by omega) hj
    · refine At.fresh hat1 rfl rfl rfl fun t ht => ?_
      rcases opqAll_ok live_lt opq_hP ht with h | h
      · simp only [List.mem_cons, List.not_mem_nil, or_false] at h
        subst h
        rw [t0]
        exact conc_slice0 (Y := { Y with ops := fun t => a1.tmps.getD t undef }) hsl hm _
      · rw [h]
        rfl
  | true =>
    rw [ltI_iff] at hlt
    have hi' : i < xs.length := by omega
    refine wpIn_skip ?_
    show (Code.seq (.block 1 (.seq cA3 cAT)) cA6).wpIn (fence none) 0 env.P Q a1 w1
    obtain ⟨x, hx⟩ : ∃ x, xs[i]? = some x := ⟨xs[i], List.getElem?_eq_getElem hi'⟩
    have hfx := hX.fits x (List.mem_of_getElem? hx)
    obtain h0 | ⟨A, hA, hAblk, hmem⟩ := hX.mem
    · rw [h0] at hi'; exact absurd hi' (by simp)
    obtain ⟨ρ1, hr1, hf1, hb1⟩ := hat1
    have hcell : ∀ j v, x.cells[j]? = some v → w1.cell? ((A.add (i * 3)).add j) = some v := fun j v hv => by
      rw [cell_same (w0 := w0)]
      · exact hmem i x hx j v hv
      · rw [add_block, add_block]; exact hb1.old _ hAblk
    have hat1' : At Y env w0 ⟨keepAb, 0⟩ fn3.ntmps (hAb (ltI i sl.2.1)) a1 w1 := ⟨ρ1, hr1, hf1, hb1⟩
    let p : Value := .pointer (some (A.add (i * 3)))
    have hatR : At (syR sl i x p a1) env w0 ⟨liveB, 0⟩ fn3.ntmps hAr a1 w1 := by
      refine At.fresh hat1' rfl rfl rfl fun t ht => ?_
      rcases opqAll_ok live_lt opq_hAr ht with h | h
      · simp only [List.mem_cons, List.not_mem_nil, or_false] at h
        rcases h with rfl | rfl | rfl | rfl
        · rw [t0]; exact conc_slice0 (Y := syR sl i x p a1) rfl hm _
        · rw [t11]; exact conc_slice0 (Y := syR sl i x p a1) rfl hm _
        · rw [t12]
          have e : tget hAr.tmT 12 = .sint .i64 (.slen 0) 0 9223372036854775807 := by kernel_rfl
          rw [e]
          have e : SX.val (syR sl i x p a1) (.slen 0) = (sl.2.1 : Int) := rfl
          simp only [conc, e]
          rw [if_pos ⟨by omega, by omega⟩]
        · rw [t13]
          have e : tget hAr.tmT 13 = .sint .i64 (.var 1000) 0 9223372036854775806 := by kernel_rfl
          rw [e]
          have e : SX.val (syR sl i x p a1) (.var 1000) = (i : Int) := rfl
          simp only [conc, e]
          rw [if_pos ⟨by omega, by omega⟩]
      · rw [h]
        have hne : t ≠ 15 := by
          rintro rfl
          exact absurd ht (by decide)
        simp only [conc, Go.AE.Q.val]
        show some (if t = 15 then p else a1.tmps.getD t undef) = _
        rw [if_neg hne]
    have bad : ∀ c : Cl, c.has x.k x.n x.s → badA c = true → (Code.seq (.block 1 (.seq cA3 cAT)) cA6).wpIn (fence none) 0 env.P Q a1 w1 := fun c hc hrun =>
      wpIn_seq (wpIn_block (elem_ok (by omega) hA hcell hfx hc hrun hatR t11 t13 (fun a' w' h => (LeavesB.none h).elim) fun a' w' h => hret a' w' _ h))
    rcases elem_cl hfx with hc | hc | hc | hc
    · refine wpIn_seq (wpIn_block (elem_ok (by omega) hA hcell hfx hc goodA_run hatR t11 t13 (fun a2 w2 h2 => ?_) fun a' w' h => (LeavesB.none h).elim))
      refine Go.AE.lastB ngE (cl_ok (syR sl i x p a1)) (rc0_ok _) (fun a3 w3 h3 => hn a3 w3 ?_) h2
      have h4 : At (syR sl i x p a1) env w0 ⟨keepA, 0⟩ fn3.ntmps hAn a3 w3 := h3.at_less keepA_in
      have s0 : a3.tmps.getD 0 undef = .slice sl.1 sl.2.1 sl.2.2 := h4.tmp (t := 0) (by decide) (v := sliceB0) (by kernel_rfl) fun ρ => .inl (conc_slice0 (Y := syR sl i x p a1) rfl hm ρ)
      have s11 : a3.tmps.getD 11 undef = .slice sl.1 sl.2.1 sl.2.2 := h4.tmp (t := 11) (by decide) (v := sliceB0) (by kernel_rfl) fun ρ => .inl (conc_slice0 (Y := syR sl i x p a1) rfl hm ρ)
      have s12 : a3.tmps.getD 12 undef = .int .i64 (sl.2.1 : Int) := h4.tmp (t := 12) (by decide) (v := .sint .i64 (.slen 0) 0 9223372036854775807) (by kernel_rfl) fun ρ => by
        have e : SX.val (syR sl i x p a1) (.slen 0) = (sl.2.1 : Int) := rfl
        simp only [conc, e]
        rw [if_pos ⟨by omega, by omega⟩]
        exact .inl rfl
      have s13 : a3.tmps.getD 13 undef = .int .i64 ((i + 1 : Nat) : Int) := h4.tmp (t := 13) (by decide) (v := .sint .i64 (.bin .add .i64 (.var 1000) (.con 1)) 1 9223372036854775807) (by kernel_rfl) fun ρ => by
        have e : SX.val (syR sl i x p a1) (.bin .add .i64 (.var 1000) (.con 1)) = ((i + 1 : Nat) : Int) := by
          show IntKind.wrap .i64 ((i : Int) + 1) = _
          rw [wrap64_in _ (by omega) (by omega)]
          omega
        simp only [conc, e]
        rw [if_pos ⟨by omega, by omega⟩]
        exact .inl rfl
      let Y3 : Sy := ⟨fun _ => ((i + 1 : Nat) : Int), fun _ => .empty, fun _ => sl, fun t => a3.tmps.getD t undef⟩
      refine ⟨xs.length - (i + 1), by omega, i + 1, Y3, by omega, rfl, rfl, rfl, fun j y hj hy => ?_, ?_⟩
      · by_cases hji : j = i
        · subst hji
          rw [hx] at hy
          cases hy
          exact hc
        · exact hgood j y (by omega) hy
      · exact At.fresh h4 rfl rfl rfl (fresh_tms (Y := Y3) ((i + 1 : Nat) : Int) 0 9223372036854775807 hm rfl s0 s11 s12 s13 (fun _ => rfl) rfl (by omega) (by omega) opq_hA (by kernel_rfl) (by kernel_rfl) (by kernel_rfl) (by kernel_rfl))
    · exact bad _ hc badA_f
    · exact bad _ hc badA_k
    · exact bad _ hc badA_l

/-- the first loop -/
theorem loopA_ok {Q : Exit → Act → World → Prop} (hX : Elems w0 sl xs) (he : ∀ a' w', OutA w0 sl xs a' w' → Q (.exit 0) a' w') (hret : ∀ a' w' Y', LeavesB Y' env w0 LL fn3.ntmps kr a' w' → Q .ret a' w') : ∀ μ a w, InvA w0 sl xs μ a w → (Code.loop cA).wpIn (fence none) 0 env.P Q a w :=
  wpIn_loop_down fun _ _ _ hi => roundA_ok hX (fun _ _ h => h) he hret hi

end
end Go.Proofs.YtnkjembkhjellaaGreatDoor
