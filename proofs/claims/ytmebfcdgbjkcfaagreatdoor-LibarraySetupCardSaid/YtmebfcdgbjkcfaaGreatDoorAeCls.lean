/-
  Arguments that are known in part: numbers from here to there, strings of so many bytes, values of the engine's language (two numbers and a string).
-/
import Derived.Test.YtmebfcdgbjkcfaaGreatDoorAeOpen
namespace Go.AE

section
variable {Y : Sy} {ρ : Rho}

theorem isCell_mkS (k : IntKind) (e : SX) (lo hi : Int) : isCell (mkS k e lo hi) = true := by
  unfold mkS
  simp only [forceI_eq]
  split
  · exact isCell_mkInt _ _
  · rfl

/-- a number -/
noncomputable def nA (i : Nat) (a b : Int) : AV := mkS .i64 (.var i) a b

theorem conc_nA {i : Nat} {a b : Int} (h1 : a ≤ Y.ints i) (h2 : Y.ints i ≤ b) : conc Y ρ (nA i a b) = some (.int .i64 (Y.ints i)) := mkS_ok (e := .var i) h1 h2

/-- a value of the engine's language -/
noncomputable def vA (i j s : Nat) (a b c d : Int) (l h : Nat) : AV := .agg [mkS .i64 (.var i) a b, mkS .i64 (.var j) c d, .sstr s l h]

def vC (k n : Int) (s : ByteArray) : Value := .agg #[.int .i64 k, .int .i64 n, .string s]

theorem conc_vA {i j s : Nat} {a b c d : Int} {l h : Nat} (h1 : a ≤ Y.ints i) (h2 : Y.ints i ≤ b) (h3 : c ≤ Y.ints j) (h4 : Y.ints j ≤ d) (h5 : l ≤ (Y.strs s).size) (h6 : (Y.strs s).size ≤ h) (hs : Nat.ble neFrom s = false := by rfl) :
    conc Y ρ (vA i j s a b c d l h) = some (vC (Y.ints i) (Y.ints j) (Y.strs s)) := by
  have e1 : conc Y ρ (mkS .i64 (.var i) a b) = some (.int .i64 (Y.ints i)) := mkS_ok (e := .var i) h1 h2
  have e2 : conc Y ρ (mkS .i64 (.var j) c d) = some (.int .i64 (Y.ints j)) := mkS_ok (e := .var j) h3 h4
  have e3 : conc Y ρ (.sstr s l h) = some (.string (Y.strs s)) := by simp [conc, h5, h6, neOk, hs]
  have hall : ([mkS .i64 (.var i) a b, mkS .i64 (.var j) c d, .sstr s l h] : List AV).all isCell = true := by
    rw [List.all_cons, List.all_cons, isCell_mkS, isCell_mkS]
    rfl
  have hc : concs Y ρ [mkS .i64 (.var i) a b, mkS .i64 (.var j) c d, .sstr s l h] = some [.int .i64 (Y.ints i), .int .i64 (Y.ints j), .string (Y.strs s)] :=
    concs_cons.2 ⟨_, _, e1, concs_cons.2 ⟨_, _, e2, concs_cons.2 ⟨_, _, e3, rfl, rfl⟩, rfl⟩, rfl⟩
  unfold vA vC
  rw [conc, if_pos hall, hc]

end

/-- a call returns v and leaves all that was there -/
def Returns (P : Program) (f : FuncId) (args : List Value) (v : Value) : Prop := ∀ w, Calls P f args.toArray w fun e w' => e = .returned v ∧ RowKit.Below w.heap.size w w'

theorem Gives.of_returns {Y : Sy} {E : Env} {f : FuncId} {args : List AV} {cargs : List Value} {v : AV} {cv : Value} (h : Returns E.P f cargs cv) (ha : concs Y (fun _ => none) args = some cargs) (hv : conc Y (fun _ => none) v = some cv) : Gives Y E f args v := by
  intro w cargs' hc
  rw [ha] at hc
  cases hc
  exact (h w).mono fun e w' he => ⟨cv, he.1, hv, he.2⟩

theorem Gives.returns {Y : Sy} {E : Env} {f : FuncId} {args : List AV} {cargs : List Value} {v : AV} {cv : Value} (h : Gives Y E f args v) (ha : concs Y (fun _ => none) args = some cargs) (hv : conc Y (fun _ => none) v = some cv) : Returns E.P f cargs cv := by
  intro w
  refine (h w cargs ha).mono fun e w' he => ?_
  obtain ⟨cv', rfl, h1, h2⟩ := he
  rw [hv] at h1
  cases h1
  exact ⟨rfl, h2⟩

/-- what a value of the engine's language must be -/
def mayP (k n : Int) (len : Nat) : Bool :=
  if k < 0 ∨ 9 < k then false
  else if k = 5 then decide (n = 0) && decide (len ≤ 65536)
  else if len ≠ 0 then false
  else if k = 2 then decide (n = 0) || decide (n = 1)
  else if k = 3 then decide (-9007199254740992 ≤ n) && decide (n ≤ 9007199254740992)
  else if k = 6 ∨ k = 7 ∨ k = 9 then decide (1 ≤ n)
  else decide (n = 0)

end Go.AE
