/-
  GeneratorBoxes: the walk of its second loop, the call.
-/
import Derived.Test.YtnkjembkhjellaaGreatDoorAeBoxWalk
import Derived.Test.YtnkjembkhjellaaGreatDoorAeBoxR0
import Derived.Test.YtnkjembkhjellaaGreatDoorAeBoxR1
import Derived.Test.YtnkjembkhjellaaGreatDoorAeBoxR2
import Derived.Test.YtnkjembkhjellaaGreatDoorAeBoxR3
import Derived.Test.YtnkjembkhjellaaGreatDoorAeBoxR4
namespace Go.Proofs.YtnkjembkhjellaaGreatDoor
open Go.AE
set_option maxRecDepth 100000

theorem shape3 : fn3.body = some (.seq cA0 (.seq (.seq cA1 (.block 0 (.loop cA))) (seqs preB (.seq (.seq cP (.block 2 (.loop cB))) cR)))) := by kernel_rfl
theorem opq_hP50 : opqAll liveB [0] hP50.tmT 147 = true := by kernel_rfl

/-! ### The heads -/
theorem ents_ok : ((List.range 51).all fun i => (entsB i).all fun p => okHO p.2) = true := by kernel_rfl
theorem ents_oki {i : Nat} (hi : i ≤ 50) : ((entsB i).all fun p => okHO p.2) = true := by
  have := ents_ok
  rw [List.all_eq_true] at this
  exact this i (List.mem_range.2 (by omega))

theorem opq_hd (i : Nat) : opqB (hd i).tmT restB = true := by kernel_rfl
theorem opq_hdN (i : Nat) : opqB (hdN i).tmT restB = true := by kernel_rfl
theorem opq_hx (i : Nat) : opqB (hx i).tmT restX = true := by kernel_rfl
theorem turn_hd (i : Nat) : turnOk liveB keepB (10 :: restB) (hd i).tmT (hd i).tmT 147 = true := by kernel_rfl
theorem turn_hdN (i : Nat) : turnOk liveB keepB (0 :: 10 :: restB) (hd i).tmT (hdN i).tmT 147 = true := by kernel_rfl
theorem turn_hx (i : Nat) : turnOk liveB keepX restX (hx i).tmT (hx i).tmT 147 = true := by kernel_rfl
theorem keepB_in : Nat.beq (Nat.land keepB LL.live) keepB = true := by kernel_rfl
theorem keepX_in : Nat.beq (Nat.land keepX LL.live) keepX = true := by kernel_rfl

theorem sub_live {k : Nat} (h : Nat.beq (Nat.land k LL.live) k = true) : ∀ t, Nat.testBit k t = true → Nat.testBit LL.live t = true := by
  intro t ht
  have h' : k &&& LL.live = k := Nat.eq_of_beq_eq_true h
  rw [← h', Nat.testBit_and, Bool.and_eq_true] at ht
  exact ht.2

theorem rounds : ∀ i, i < 50 → roundB i = true
  | 0, _ => round0
  | 1, _ => round1
  | 2, _ => round2
  | 3, _ => round3
  | 4, _ => round4
  | 5, _ => round5
  | 6, _ => round6
  | 7, _ => round7
  | 8, _ => round8
  | 9, _ => round9
  | 10, _ => round10
  | 11, _ => round11
  | 12, _ => round12
  | 13, _ => round13
  | 14, _ => round14
  | 15, _ => round15
  | 16, _ => round16
  | 17, _ => round17
  | 18, _ => round18
  | 19, _ => round19
  | 20, _ => round20
  | 21, _ => round21
  | 22, _ => round22
  | 23, _ => round23
  | 24, _ => round24
  | 25, _ => round25
  | 26, _ => round26
  | 27, _ => round27
  | 28, _ => round28
  | 29, _ => round29
  | 30, _ => round30
  | 31, _ => round31
  | 32, _ => round32
  | 33, _ => round33
  | 34, _ => round34
  | 35, _ => round35
  | 36, _ => round36
  | 37, _ => round37
  | 38, _ => round38
  | 39, _ => round39
  | 40, _ => round40
  | 41, _ => round41
  | 42, _ => round42
  | 43, _ => round43
  | 44, _ => round44
  | 45, _ => round45
  | 46, _ => round46
  | 47, _ => round47
  | 48, _ => round48
  | 49, _ => round49
  | n + 50, h => absurd h (by omega)

theorem alls {f : Nat → Bool} {i : Nat} (hi : i ≤ 50) (h0 : ((List.range 10).all fun i => f (i + 0)) = true) (h1 : ((List.range 10).all fun i => f (i + 10)) = true) (h2 : ((List.range 10).all fun i => f (i + 20)) = true) (h3 : ((List.range 10).all fun i => f (i + 30)) = true) (h4 : ((List.range 11).all fun i => f (i + 40)) = true) : f i = true := by
  have e : ∀ k m, ((List.range m).all fun i => f (i + k)) = true → k ≤ i → i < k + m → f i = true := by
    intro k m h g1 g2
    rw [List.all_eq_true] at h
    have := h (i - k) (List.mem_range.2 (by omega))
    rwa [show i - k + k = i by omega] at this
  by_cases c1 : i < 10
  · exact e 0 10 h0 (by omega) (by omega)
  by_cases c2 : i < 20
  · exact e 10 10 h1 (by omega) (by omega)
  by_cases c3 : i < 30
  · exact e 20 10 h2 (by omega) (by omega)
  by_cases c4 : i < 40
  · exact e 30 10 h3 (by omega) (by omega)
  · exact e 40 11 h4 (by omega) (by omega)

theorem exits {i : Nat} (hi : i ≤ 50) : exitB i = true := alls hi exits0 exits1 exits2 exits3 exits4
theorem lasts {i : Nat} (hi : i ≤ 50) : Go.Proofs.YtnkjembkhjellaaGreatDoor.lastB i = true := alls hi lasts0 lasts1 lasts2 lasts3 lasts4

/-! ### The symbols -/
def el (xs : List Elem) (j : Nat) : Elem := xs.getD j ⟨0, 0, ByteArray.empty⟩

/-- what the symbols of the second loop stand for -/
structure Fam (Y : Sy) (sl : Option Addr × Nat × Nat) (xs : List Elem) : Prop where
  ks : ∀ j, j < 50 → Y.ints (10 + 2 * j) = (el xs j).k
  ns : ∀ j, j < 50 → Y.ints (11 + 2 * j) = (el xs j).n
  ss : ∀ j, Y.strs (10 + j) = (el xs j).s
  sl : Y.sls 0 = sl

def syB (sl : Option Addr × Nat × Nat) (xs : List Elem) (a : Act) : Sy :=
  ⟨fun i => if i % 2 = 0 then (el xs ((i - 10) / 2)).k else (el xs ((i - 11) / 2)).n, fun i => (el xs (i - 10)).s, fun _ => sl, fun t => a.tmps.getD t undef⟩

theorem syB_fam (sl : Option Addr × Nat × Nat) (xs : List Elem) (a : Act) : Fam (syB sl xs a) sl xs := by
  refine ⟨fun j _ => ?_, fun j _ => ?_, fun j => ?_, rfl⟩
  · show (if (10 + 2 * j) % 2 = 0 then (el xs ((10 + 2 * j - 10) / 2)).k else (el xs ((10 + 2 * j - 11) / 2)).n) = _
    rw [if_pos (by omega), show (10 + 2 * j - 10) / 2 = j by omega]
  · show (if (11 + 2 * j) % 2 = 0 then (el xs ((11 + 2 * j - 10) / 2)).k else (el xs ((11 + 2 * j - 11) / 2)).n) = _
    rw [if_neg (by omega), show (11 + 2 * j - 11) / 2 = j by omega]
  · show (el xs (10 + j - 10)).s = _
    rw [show 10 + j - 10 = j by omega]

theorem Fam.agree {Y Y' : Sy} {sl : Option Addr × Nat × Nat} {xs : List Elem} (h : Fam Y sl xs) (ag : Agree Y Y') : Fam Y' sl xs :=
  ⟨fun j hj => by rw [ag.ints _ (by omega)]; exact h.ks j hj, fun j hj => by rw [ag.ints _ (by omega)]; exact h.ns j hj, fun j => by rw [ag.strs]; exact h.ss j, by rw [ag.sls]; exact h.sl⟩

/-- all elements are good -/
structure Good (xs : List Elem) : Prop where
  good : ∀ x ∈ xs, goodE x
  fit : ∀ x ∈ xs, fits x.k x.n x.s

theorem Good.el {xs : List Elem} (h : Good xs) (j : Nat) : goodE (el xs j) ∧ fits (el xs j).k (el xs j).n (el xs j).s := by
  unfold Go.Proofs.YtnkjembkhjellaaGreatDoor.el
  rw [List.getD_eq_getElem?_getD]
  cases hx : xs[j]? with
  | none =>
    refine ⟨⟨by decide, by decide, by decide, by decide, by decide⟩, ⟨by decide, by decide⟩, ⟨by decide, by decide⟩, by decide⟩
  | some x =>
    have hm := List.mem_of_getElem? hx
    exact ⟨h.good x hm, h.fit x hm⟩

section
variable {Y : Sy} {sl : Option Addr × Nat × Nat} {xs : List Elem}

theorem conc_k (hF : Fam Y sl xs) (hG : Good xs) {j : Nat} (hj : j < 50) (ρ : Rho) : conc Y ρ (.sint .i64 (.var (10 + 2 * j)) 0 5) = some (.int .i64 (el xs j).k) := by
  have e : SX.val Y (.var (10 + 2 * j)) = (el xs j).k := hF.ks j hj
  have g := (hG.el j).1
  simp only [conc, e]
  rw [if_pos ⟨g.1, g.2.1⟩]

theorem conc_n (hF : Fam Y sl xs) (hG : Good xs) {j : Nat} (hj : j < 50) (ρ : Rho) : conc Y ρ (.sint .i64 (.var (11 + 2 * j)) (-9223372036854775808) 9223372036854775807) = some (.int .i64 (el xs j).n) := by
  have e : SX.val Y (.var (11 + 2 * j)) = (el xs j).n := hF.ns j hj
  have g := (hG.el j).2.2.1
  simp only [conc, e]
  rw [if_pos ⟨g.1, g.2⟩]

theorem conc_s (hF : Fam Y sl xs) (hG : Good xs) {j : Nat} (hj : j < 50) (ρ : Rho) : conc Y ρ (.sstr (10 + j) 0 500) = some (.string (el xs j).s) := by
  have g := (hG.el j).1
  have g2 : (el xs j).s.size ≤ 500 := g.2.2.2.1
  simp only [conc, hF.ss]
  have hne : neOk (10 + j) (el xs j).s = true := by
    have h : Nat.ble neFrom (10 + j) = false := by
      cases h : Nat.ble neFrom (10 + j) with
      | false => rfl
      | true =>
        have h : (100 : Nat) ≤ 10 + j := Nat.le_of_ble_eq_true h
        omega
    unfold neOk
    rw [h]
    rfl
  rw [if_pos ⟨Nat.zero_le _, g2, hne⟩]

theorem conc_v (hF : Fam Y sl xs) (hG : Good xs) {j : Nat} (hj : j < 50) (ρ : Rho) : conc Y ρ (vB j) = some (vC (el xs j).k (el xs j).n (el xs j).s) := by
  have h : concs Y ρ [.sint .i64 (.var (10 + 2 * j)) 0 5, .sint .i64 (.var (11 + 2 * j)) (-9223372036854775808) 9223372036854775807, .sstr (10 + j) 0 500] = some [.int .i64 (el xs j).k, .int .i64 (el xs j).n, .string (el xs j).s] :=
    concs_cons.2 ⟨_, _, conc_k hF hG hj ρ, concs_cons.2 ⟨_, _, conc_n hF hG hj ρ, concs_cons.2 ⟨_, _, conc_s hF hG hj ρ, rfl, rfl⟩, rfl⟩, rfl⟩
  unfold vB
  simp only [conc]
  rw [if_pos (by rfl), h]
  rfl

theorem hasB136 : hasBody env 136 = true := by kernel_rfl

theorem knB_ok (hF : Fam Y sl xs) (hG : Good xs) : KnownOk Y env (flatG gsB) := by
  have e : flatG gsB = ((List.range 50).map fun j => (⟨136, [vB j], .bool true⟩ : Known)) ++ [⟨5, [], .bool true⟩] := rfl
  rw [e]
  intro q hq
  rcases List.mem_append.1 hq with h | h
  · obtain ⟨j, hj, rfl⟩ := List.mem_map.1 h
    have hj := List.mem_range.1 hj
    have g := (hG.el j).1
    exact ⟨hasB136, Gives.of_returns (cmay_ret (el xs j).k (el xs j).n (el xs j).s ⟨g.1, g.2.1⟩ g.2.2.2.2) (concs_cons.2 ⟨_, _, conc_v hF hG hj _, rfl, rfl⟩) rfl⟩
  · exact (KnownOk.nil.cons hasA5 (goes_gives Y)) q h

theorem rcB_ok (hF : Fam Y sl xs) (hG : Good xs) : RecOk Y env rcB := evSg_ok (env_ok Y) (knB_ok hF hG) SumsOk.nil 300 99

end

theorem flat_get {f : Nat → List AV} (hf : ∀ j, (f j).length = 3) : ∀ (n m : Nat) v, ((List.range n).flatMap f)[m]? = some v → m < 3 * n ∧ (f (m / 3))[m % 3]? = some v
  | 0, m, v, h => by simp at h
  | n + 1, m, v, h => by
    have hlen : ∀ n, ((List.range n).flatMap f).length = 3 * n := by
      intro n
      induction n with
      | zero => rfl
      | succ n ih => rw [List.range_succ, List.flatMap_append, List.length_append, ih]; simp [hf]; omega
    rw [List.range_succ, List.flatMap_append] at h
    rcases Nat.lt_or_ge m (3 * n) with c | c
    · rw [List.getElem?_append_left (by rw [hlen]; exact c)] at h
      have := flat_get hf n m v h
      exact ⟨by omega, this.2⟩
    · rw [List.getElem?_append_right (by rw [hlen]; exact c), hlen] at h
      have h' : (f n)[m - 3 * n]? = some v := by simpa using h
      have : m - 3 * n < 3 := by
        rcases Nat.lt_or_ge (m - 3 * n) 3 with g | g
        · exact g
        · rw [List.getElem?_eq_none (by rw [hf]; exact g)] at h'; cases h'
      refine ⟨by omega, ?_⟩
      rw [show m / 3 = n by omega, show m % 3 = m - 3 * n by omega]
      exact h'

theorem valsB_len (n : Nat) : (valsB n).length = 3 * n := by
  unfold valsB
  induction n with
  | zero => rfl
  | succ n ih => rw [List.range_succ, List.flatMap_append, List.length_append, ih]; simp; omega

theorem add_add (A : Addr) (i j : Nat) : (A.add i).add j = A.add (i + j) := by
  unfold Addr.add
  by_cases hi : i = 0
  · subst hi
    simp
  · by_cases hj : j = 0
    · subst hj
      simp
    · rw [if_neg hi, if_neg hj, if_neg (by omega)]
      simp [Nat.add_assoc]

/-- the row in which the elements lie -/
theorem Elems.row {w0 : World} {sl : Option Addr × Nat × Nat} {xs : List Elem} (h : Elems w0 sl xs) (h0 : xs ≠ []) : ∃ (A : Addr) (arr : Array Value) (elem : TypeId) (fz : Nat × Nat), sl.1 = some A ∧ A = ⟨A.block, A.off, none⟩ ∧ w0.heap[A.block]? = some (.cells arr elem fz) ∧
    ∀ i, i < xs.length → arr[A.off + 3 * i]? = some (.int .i64 (el xs i).k) ∧ arr[A.off + (3 * i + 1)]? = some (.int .i64 (el xs i).n) ∧ arr[A.off + (3 * i + 2)]? = some (.string (el xs i).s) := by
  rcases h.mem with h1 | ⟨A, hA, hlt, hc⟩
  · exact absurd h1 h0
  have hpos : 0 < xs.length := List.length_pos_iff.2 h0
  have hall : ∀ i, i < xs.length → w0.cell? (A.add (3 * i)) = some (.int .i64 (el xs i).k) ∧ w0.cell? (A.add (3 * i + 1)) = some (.int .i64 (el xs i).n) ∧ w0.cell? (A.add (3 * i + 2)) = some (.string (el xs i).s) := by
    intro i hi
    have hx : xs[i]? = some (el xs i) := by unfold el; rw [List.getD_eq_getElem?_getD, List.getElem?_eq_getElem hi]; rfl
    have h3 := hc i _ hx
    refine ⟨?_, ?_, ?_⟩
    · have := h3 0 _ rfl
      rw [add_add, show i * 3 + 0 = 3 * i by omega] at this
      exact this
    · have := h3 1 _ rfl
      rw [add_add, show i * 3 + 1 = 3 * i + 1 by omega] at this
      exact this
    · have := h3 2 _ rfl
      rw [add_add, show i * 3 + 2 = 3 * i + 2 by omega] at this
      exact this
  have g0 := (hall 0 hpos).1
  have ea : A.add (3 * 0) = A := rfl
  rw [ea] at g0
  unfold World.cell? at g0
  split at g0
  · rename_i arr elem fz hblk
    split at g0
    · cases g0
    rename_i hsp
    have hspot : A.spot = none := by
      cases h : A.spot with
      | none => rfl
      | some x => rw [h] at hsp; exact absurd rfl hsp
    have hget : ∀ m v, w0.cell? (A.add m) = some v → arr[A.off + m]? = some v := by
      intro m v g
      unfold World.cell? at g
      by_cases hm : m = 0
      · subst hm
        have eb : A.add 0 = A := rfl
        rw [eb, hblk] at g
        simpa [hspot] using g
      have eb : (A.add m) = { A with off := A.off + m, spot := none } := by unfold Addr.add; rw [if_neg hm]
      rw [eb] at g
      dsimp only at g
      rw [hblk] at g
      simpa using g
    refine ⟨A, arr, elem, fz, hA, ?_, hblk, fun i hi => ⟨hget _ _ (hall i hi).1, hget _ _ (hall i hi).2.1, hget _ _ (hall i hi).2.2⟩⟩
    cases A
    simp only at hspot
    rw [hspot]
  · cases g0

def withOps (Y : Sy) (a : Act) : Sy := { Y with ops := fun t => a.tmps.getD t undef }
theorem agree_ops (Y : Sy) (a : Act) : Agree Y (withOps Y a) := ⟨rfl, rfl, fun _ _ => rfl⟩

theorem opq_conc {Y : Sy} {tm : T AV} {l : List Nat} (h : opqB tm l = true) (a : Act) (t : Nat) (ht : t ∈ l) (hY : Y.ops t = a.tmps.getD t undef) : conc Y (fun _ => none) (tget tm t) = some (a.tmps.getD t undef) := by
  rw [opqB_ok h t ht]
  simp only [conc, Go.AE.Q.val, hY]

section
variable {Y : Sy} {w0 : World} {sl : Option Addr × Nat × Nat} {xs : List Elem} {a : Act} {w : World}

theorem atLL {s : Hd} (h : At Y env w0 LL fn3.ntmps s a w) : At Y env w0 ⟨liveB, 0⟩ fn3.ntmps s a w := by rw [← LL_eq]; exact h
theorem ofLL {s : Hd} (h : At Y env w0 ⟨liveB, 0⟩ fn3.ntmps s a w) : At Y env w0 LL fn3.ntmps s a w := by rw [LL_eq]; exact h

/-- what there is: valid elements, at most 50 -/
structure Ctx (w0 : World) (sl : Option Addr × Nat × Nat) (xs : List Elem) : Prop where
  elems : Elems w0 sl xs
  good : Good xs
  cap : sl.2.1 ≤ sl.2.2
  few : xs.length ≤ 50

def InvB (w0 : World) (sl : Option Addr × Nat × Nat) (xs : List Elem) (μ : Nat) (a : Act) (w : World) : Prop :=
  ∃ i Y, i ≤ xs.length ∧ μ = xs.length - i ∧ Fam Y sl xs ∧ At Y env w0 ⟨liveB, 0⟩ fn3.ntmps (hd i) a w

def OutB (w0 : World) (sl : Option Addr × Nat × Nat) (xs : List Elem) (a : Act) (w : World) : Prop :=
  ∃ i Y, i ≤ 50 ∧ Fam Y sl xs ∧ At Y env w0 ⟨keepX, 0⟩ fn3.ntmps (hx i) a w

/-- at a head of the second loop, all of it -/
theorem head_of {i : Nat} (hi : i ≤ 50) (h : At Y env w0 ⟨keepB, 0⟩ fn3.ntmps (hd i) a w) : At (withOps Y a) env w0 ⟨liveB, 0⟩ fn3.ntmps (hd i) a w :=
  h.turn (agree_ops Y a) rfl rfl rfl (ents_oki hi) live_lt (turn_hd i) fun t ht => by
    rcases List.mem_cons.1 ht with rfl | ht
    · have e10 : a.tmps.getD 10 undef = .int .i64 (i : Int) := h.tmp (t := 10) (by decide) (v := .i64 (i : Int)) (by kernel_rfl) fun ρ => .inl rfl
      rw [e10]
      have : tget (hd i).tmT 10 = .i64 (i : Int) := by kernel_rfl
      rw [this]
      rfl
    · exact opq_conc (opq_hd i) a t ht rfl

/-- one round -/
theorem roundB_ok {Q : Exit → Act → World → Prop} (hC : Ctx w0 sl xs) (hF : Fam Y sl xs) {i : Nat} (hi : i < xs.length) (hat : At Y env w0 ⟨liveB, 0⟩ fn3.ntmps (hd i) a w)
    (hQ : ∀ a' w', (∃ μ, μ < xs.length - i ∧ InvB w0 sl xs μ a' w') → Q .normal a' w') : cB.wpIn (fence none) 0 env.P Q a w := by
  have hfew := hC.few
  have hlen := hC.elems.len
  have hmost := hC.elems.most
  obtain ⟨A, arr, elem, fz, k1, k2, k3, k4⟩ := hC.elems.row (by intro h; rw [h] at hi; simp at hi)
  have hsl := hF.sl
  have h1 : At Y env w0 LL fn3.ntmps (hdV i) a w := by
    refine At.add (ofLL hat) rfl (t := 0) (i := 0) (b₀ := 999) (o₀ := 0) (hi₀ := most) (by kernel_rfl) (A := A) (by rw [hsl]; exact k1) k2 (by rw [hsl]; exact hC.cap) (by rw [hsl]; omega) (by rw [hsl]; exact hmost) k3 ?_ fun m v hv => ?_
    · rw [valsB_len]
      have := (k4 i hi).2.2
      rcases Nat.lt_or_ge (A.off + (3 * i + 2)) arr.size with h | h
      · omega
      · rw [Array.getElem?_eq_none h] at this; cases this
    · unfold valsB at hv
      obtain ⟨g1, g2⟩ := flat_get (fun _ => rfl) _ _ _ hv
      have hj : m / 3 < xs.length := by omega
      obtain ⟨q1, q2, q3⟩ := k4 (m / 3) hj
      have hm : m % 3 = 0 ∨ m % 3 = 1 ∨ m % 3 = 2 := by omega
      rcases hm with e | e | e
      · rw [e] at g2
        cases g2
        refine ⟨rfl, _, conc_k hF hC.good (by omega), ?_⟩
        rw [show m = 3 * (m / 3) by omega]
        rw [show 3 * (m / 3) / 3 = m / 3 by omega]
        exact q1
      · rw [e] at g2
        cases g2
        refine ⟨rfl, _, conc_n hF hC.good (by omega), ?_⟩
        rw [show A.off + m = A.off + (3 * (m / 3) + 1) by omega]
        exact q2
      · rw [e] at g2
        cases g2
        refine ⟨rfl, _, conc_s hF hC.good (by omega), ?_⟩
        rw [show A.off + m = A.off + (3 * (m / 3) + 2) by omega]
        exact q3
  refine wpIn_mono (step_ok ngE (cl_ok Y cB) (rcB_ok hF hC.good) h1 (rounds i (by omega))) fun e a1 w1 hq => ?_
  cases e with
  | exit id => exact (LeavesB.none hq).elim
  | ret => exact (LeavesB.none hq).elim
  | goto l => exact hq.elim
  | panic ch => exact hq.elim
  | outgrown => exact hq.elim
  | normal =>
    have h3 : At Y env w0 ⟨keepB, 0⟩ fn3.ntmps (hd (i + 1)) a1 w1 := LeavesB.at_less (K := 147) hq keepB_in
    exact hQ a1 w1 ⟨xs.length - (i + 1), by omega, i + 1, _, by omega, rfl, hF.agree (agree_ops Y a1), head_of (by omega) h3⟩

/-- the loop is left -/
theorem leaveB_ok {Q : Exit → Act → World → Prop} (hC : Ctx w0 sl xs) (hF : Fam Y sl xs) (hat : At Y env w0 ⟨liveB, 0⟩ fn3.ntmps (hd xs.length) a w)
    (hQ : ∀ a' w', OutB w0 sl xs a' w' → Q (.exit 2) a' w') : cB.wpIn (fence none) 0 env.P Q a w := by
  have hfew := hC.few
  have hlen := hC.elems.len
  have hmost := hC.elems.most
  have hsl := hF.sl
  have h1 : At Y env w0 ⟨keepB, 0⟩ fn3.ntmps (hd xs.length) a w := At.less (live := LL.live) (ng := LL.ng) (ofLL hat) (sub_live keepB_in)
  have h2 : At (withOps Y a) env w0 ⟨liveB, 0⟩ fn3.ntmps (hdN xs.length) a w := by
    refine h1.turn (agree_ops Y a) rfl rfl rfl (ents_oki hfew) live_lt (turn_hdN xs.length) fun t ht => ?_
    rcases List.mem_cons.1 ht with rfl | ht
    · have e2 : a.tmps.getD 0 undef = .slice sl.1 sl.2.1 sl.2.2 := h1.tmp (t := 0) (by decide) (v := sliceB0) (by kernel_rfl) fun ρ => .inl (conc_slice0 hsl hmost ρ)
      rw [e2]
      have : tget (hdN xs.length).tmT 0 = .uslice 0 999 0 0 xs.length := by kernel_rfl
      rw [this]
      have e : (withOps Y a).sls 0 = sl := hsl
      simp only [conc, e]
      rw [if_pos ⟨Nat.zero_le _, by omega⟩]
      rfl
    rcases List.mem_cons.1 ht with rfl | ht
    · have e10 : a.tmps.getD 10 undef = .int .i64 (xs.length : Int) := h1.tmp (t := 10) (by decide) (v := .i64 (xs.length : Int)) (by kernel_rfl) fun ρ => .inl rfl
      rw [e10]
      have : tget (hdN xs.length).tmT 10 = .i64 (xs.length : Int) := by kernel_rfl
      rw [this]
      rfl
    · exact opq_conc (opq_hdN xs.length) a t ht rfl
  have hF' := hF.agree (agree_ops Y a)
  refine wpIn_mono (step_ok ngE (cl_ok _ cB) (rcB_ok hF' hC.good) (ofLL h2) (exits hfew)) fun e a1 w1 hq => ?_
  cases e with
  | normal => exact (LeavesB.none hq).elim
  | ret => exact (LeavesB.none hq).elim
  | goto l => exact hq.elim
  | panic ch => exact hq.elim
  | outgrown => exact hq.elim
  | exit id =>
    match id with
    | 0 => exact (LeavesB.none hq).elim
    | 1 => exact (LeavesB.none hq).elim
    | 2 => exact hQ a1 w1 ⟨xs.length, _, hfew, hF', LeavesB.at_less (K := 147) hq keepX_in⟩
    | n + 3 => exact (LeavesB.none hq).elim

/-- all rounds -/
theorem loopB_ok {Q : Exit → Act → World → Prop} (hC : Ctx w0 sl xs) (hQ : ∀ a' w', OutB w0 sl xs a' w' → Q (.exit 2) a' w') : ∀ μ a w, InvB w0 sl xs μ a w → (Code.loop cB).wpIn (fence none) 0 env.P Q a w := by
  refine wpIn_loop_down fun μ a w hi => ?_
  obtain ⟨i, Y, hi, rfl, hF, hat⟩ := hi
  by_cases he : i = xs.length
  · subst he
    exact leaveB_ok hC hF hat fun a' w' h => hQ a' w' h
  · exact roundB_ok hC hF (by omega) hat fun a' w' h => h

/-- what the body ends with -/
def Ends (w0 : World) (e : Exit) (a' : Act) (w' : World) : Prop := (e = .normal ∨ e = .ret) ∧ ∃ Y', EnvOk Y' env ∧ LeavesB Y' env w0 (lvOf env fn3) fn3.ntmps (resK env fn3 fun v => sameV v (.bool true)) a' w'

/-- behind the second loop -/
theorem rest_ok (hC : Ctx w0 sl xs) (h : OutB w0 sl xs a w) : cR.wpIn (fence none) 0 env.P (Ends w0) a w := by
  obtain ⟨i, Y, hi, hF, h1⟩ := h
  have hF' := hF.agree (agree_ops Y a)
  have h2 : At (withOps Y a) env w0 ⟨liveB, 0⟩ fn3.ntmps (hx i) a w := h1.turn (agree_ops Y a) rfl rfl rfl (ents_oki hi) live_lt (turn_hx i) fun t ht => opq_conc (opq_hx i) a t ht rfl
  refine wpIn_mono (step_ok ngE (cl_ok _ cR) (rcB_ok hF' hC.good) (ofLL h2) (lasts hi)) fun e a1 w1 hq => ?_
  cases e with
  | normal => exact (LeavesB.none hq).elim
  | ret => exact ⟨.inr rfl, _, env_ok _, hq⟩
  | exit id => exact (LeavesB.none hq).elim
  | goto l => exact hq.elim
  | panic ch => exact hq.elim
  | outgrown => exact hq.elim

/-- behind the first loop -/
theorem after_ok (hX : Elems w0 sl xs) (hcap : sl.2.1 ≤ sl.2.2) (h : OutA w0 sl xs a w) : (seqs preB (.seq (.seq cP (.block 2 (.loop cB))) cR)).wpIn (fence none) 0 env.P (Ends w0) a w := by
  obtain ⟨hgood, Y, hsl, hat⟩ := h
  have hG : Good xs := ⟨hgood, hX.fits⟩
  have hmost := hX.most
  have hlen := hX.len
  have hF := syB_fam sl xs a
  have t0 : a.tmps.getD 0 undef = .slice sl.1 sl.2.1 sl.2.2 := hat.tmp (t := 0) (by decide) (v := sliceB0) (by kernel_rfl) fun ρ => .inl (conc_slice0 hsl hmost ρ)
  by_cases hn : xs.length ≤ 50
  · have h1 : At (syB sl xs a) env w0 ⟨liveB, 0⟩ fn3.ntmps hP50 a w := by
      refine At.fresh hat rfl rfl rfl fun t ht => ?_
      rcases opqAll_ok live_lt opq_hP50 ht with h | h
      · simp only [List.mem_cons, List.not_mem_nil, or_false] at h
        subst h
        rw [t0]
        have : tget hP50.tmT 0 = .uslice 0 999 0 0 50 := by kernel_rfl
        rw [this]
        have e : (syB sl xs a).sls 0 = sl := rfl
        simp only [conc, e]
        rw [if_pos ⟨Nat.zero_le _, by omega⟩]
        rfl
      · rw [h]
        rfl
    have hC : Ctx w0 sl xs := ⟨hX, hG, hcap, hn⟩
    refine prefB ngE (cl_ok _) (rcB_ok hF hG) (r := .seq (.seq cP (.block 2 (.loop cB))) cR) (fun a1 w1 h2 => ?_) preB a w ((ofLL h1).leaves pre2_run)
    refine wpIn_seq (prefB ngE (cl_ok _) (rcB_ok hF hG) (r := .block 2 (.loop cB)) (fun a2 w2 h3 => ?_) [cP] a1 w1 h2)
    have h4 : At (syB sl xs a) env w0 ⟨keepB, 0⟩ fn3.ntmps (hd 0) a2 w2 := h3.at_less keepB_in
    refine wpIn_block (loopB_ok hC (fun a3 w3 h5 => ?_) xs.length a2 w2 ⟨0, _, by omega, rfl, hF.agree (agree_ops _ a2), head_of (by omega) h4⟩)
    exact rest_ok hC h5
  · have h1 : At (syB sl xs a) env w0 ⟨liveB, 0⟩ fn3.ntmps hP a w := by
      refine At.fresh hat rfl rfl rfl fun t ht => ?_
      rcases opqAll_ok live_lt opq_hP ht with h | h
      · simp only [List.mem_cons, List.not_mem_nil, or_false] at h
        subst h
        rw [t0]
        exact conc_slice0 (Y := syB sl xs a) rfl hmost _
      · rw [h]
        rfl
    obtain ⟨A, arr, elem, fz, k1, k2, k3, k4⟩ := hX.row (by intro h; rw [h] at hn; simp at hn)
    have h2 : At (syB sl xs a) env w0 LL fn3.ntmps hP51 a w := by
      refine At.add (ofLL h1) rfl (t := 0) (i := 0) (b₀ := 999) (o₀ := 0) (hi₀ := most) (by kernel_rfl) (A := A) k1 k2 hcap ?_ hmost k3 ?_ (fun j v hv => by simp at hv)
      · show 51 ≤ sl.2.1
        omega
      · have := (k4 0 (by omega)).1
        rcases Nat.lt_or_ge (A.off + 3 * 0) arr.size with h | h
        · simp; omega
        · rw [Array.getElem?_eq_none h] at this; cases this
    show (Code.seq (Go.Proofs.YtnkjembkhjellaaGreatDoor.sl (dC 2)) (.seq (Go.Proofs.YtnkjembkhjellaaGreatDoor.sl (dC 3)) _)).wpIn (fence none) 0 env.P (Ends w0) a w
    refine wpIn_seq (wpIn_mono (step_ok ngE (cl_ok _ _) (rcB_ok hF hG) h2 pre51_run) fun e a1 w1 hq => ?_)
    cases e with
    | ret => exact (LeavesB.none hq).elim
    | exit id => exact (LeavesB.none hq).elim
    | goto l => exact hq.elim
    | panic ch => exact hq.elim
    | outgrown => exact hq.elim
    | normal =>
      refine wpIn_seq (wpIn_mono (stepB ngE (cl_ok _ _) (rcB_ok hF hG) hq) fun e a2 w2 hq => ?_)
      cases e with
      | normal => exact (LeavesB.none hq).elim
      | ret => exact ⟨.inr rfl, _, env_ok _, hq⟩
      | exit id => exact (LeavesB.none hq).elim
      | goto l => exact hq.elim
      | panic ch => exact hq.elim
      | outgrown => exact hq.elim

theorem argsB_le : Nat.ble [sliceB0].length fn3.ntmps = true := by kernel_rfl

/-- the call -/
theorem boxes_calls (hX : Elems w0 sl xs) (hcap : sl.2.1 ≤ sl.2.2) : Calls Tryz.prog 3 #[.slice sl.1 sl.2.1 sl.2.2] w0 fun e w' => e = .returned (.bool true) ∧ RowKit.Below w0.heap.size w0 w' := by
  let Y : Sy := ⟨fun _ => 0, fun _ => .empty, fun _ => sl, fun _ => undef⟩
  have hmost := hX.most
  refine calls_true (Y := Y) (P := Tryz.prog) (args := [sliceB0]) (cargs := [_]) rfl (env_ok Y) ft3 shape3 argsB_le (concs_cons.2 ⟨_, _, conc_slice0 (Y := Y) rfl hmost _, rfl, rfl⟩) fun a hentry => ?_
  refine prefB ngE (cl_ok Y) (rc0_ok Y) (r := .seq (.seq cA1 (.block 0 (.loop cA))) _) (fun a1 w1 h1 => ?_) [cA0] a w0 (hentry _ entryA_run)
  refine wpIn_seq (prefB ngE (cl_ok Y) (rc0_ok Y) (r := .block 0 (.loop cA)) (fun a2 w2 h2 => ?_) [cA1] a1 w1 h1)
  have h3 : At Y env w0 ⟨keepA, 0⟩ fn3.ntmps hA0 a2 w2 := h2.at_less keepA_in
  have s0 : a2.tmps.getD 0 undef = .slice sl.1 sl.2.1 sl.2.2 := h3.tmp (t := 0) (by decide) (v := sliceB0) (by kernel_rfl) fun ρ => .inl (conc_slice0 (Y := Y) rfl hmost ρ)
  have s11 : a2.tmps.getD 11 undef = .slice sl.1 sl.2.1 sl.2.2 := h3.tmp (t := 11) (by decide) (v := sliceB0) (by kernel_rfl) fun ρ => .inl (conc_slice0 (Y := Y) rfl hmost ρ)
  have s12 : a2.tmps.getD 12 undef = .int .i64 (sl.2.1 : Int) := h3.tmp (t := 12) (by decide) (v := .sint .i64 (.slen 0) 0 9223372036854775807) (by kernel_rfl) fun ρ => by
    have e : SX.val Y (.slen 0) = (sl.2.1 : Int) := rfl
    simp only [conc, e]
    rw [if_pos ⟨by omega, by omega⟩]
    exact .inl rfl
  have s13 : a2.tmps.getD 13 undef = .int .i64 0 := h3.tmp (t := 13) (by decide) (v := .i64 0) (by kernel_rfl) fun ρ => .inl rfl
  let Y2 : Sy := ⟨fun _ => 0, fun _ => .empty, fun _ => sl, fun t => a2.tmps.getD t undef⟩
  have h4 : At Y2 env w0 ⟨liveB, 0⟩ fn3.ntmps hA a2 w2 :=
    At.fresh h3 rfl rfl rfl (fresh_tms (Y := Y2) 0 0 9223372036854775807 hmost rfl s0 s11 s12 s13 (fun _ => rfl) rfl (by omega) (by omega) opq_hA (by kernel_rfl) (by kernel_rfl) (by kernel_rfl) (by kernel_rfl))
  refine wpIn_block (loopA_ok hX (fun a3 w3 h5 => after_ok hX hcap h5) (fun a3 w3 Y' h5 => ⟨.inr rfl, Y', env_ok _, h5⟩) xs.length a2 w2 ⟨0, Y2, by omega, rfl, rfl, rfl, fun j x hj _ => absurd hj (by omega), h4⟩)

end
end Go.Proofs.YtnkjembkhjellaaGreatDoor
