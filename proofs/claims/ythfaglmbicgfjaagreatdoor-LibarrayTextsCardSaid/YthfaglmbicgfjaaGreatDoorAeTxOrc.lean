/-
  What is known of single operations, as the evaluator takes it: comparisons, quotients, shifts, sums and pieces of strings, rows of cells.
-/
import Derived.Test.YthfaglmbicgfjaaGreatDoorAeGlob
import Derived.Test.YthfaglmbicgfjaaGreatDoorAeCls
namespace Go.AE

def syL (l : List Int) (s : List ByteArray) : Sy := ⟨fun i => l.getD i 0, fun i => s.getD i ByteArray.empty, fun _ => (none, 0, 0), fun _ => undef⟩

section
variable {Y : Sy}

def IsI (Y : Sy) (x : AV) (k : IntKind) (n : Int) : Prop := ∀ ρ, conc Y ρ x = some (.int k n)
def IsS (Y : Sy) (x : AV) (s : ByteArray) : Prop := ∀ ρ, conc Y ρ x = some (.string s)

theorem isI_64 (n : Int) : IsI Y (.i64 n) .i64 n := fun _ => rfl
theorem isI_int (k : IntKind) (n : Int) : IsI Y (.int k n) k n := fun _ => rfl
theorem isI_sym {k : IntKind} {e : SX} {l h n : Int} (hn : e.val Y = n) (h1 : l ≤ n) (h2 : n ≤ h) : IsI Y (.sint k e l h) k n := fun _ => by
  subst hn
  exact if_pos ⟨h1, h2⟩
theorem isS_sym {i l h : Nat} {s : ByteArray} (hs : Y.strs i = s) (h1 : l ≤ s.size) (h2 : s.size ≤ h) (h3 : Nat.ble neFrom i = false) : IsS Y (.sstr i l h) s := fun _ => by
  subst hs
  have : neOk i (Y.strs i) = true := by unfold neOk; rw [h3]; rfl
  exact if_pos ⟨h1, h2, this⟩
theorem isS_str {b : List Nat} (h : okBytes b = true) : IsS Y (.str b) (bytesV b) := fun _ => if_pos h

theorem orc_lss {x y : AV} {k : IntKind} {a b : Int} {r : Bool} (hx : IsI Y x k a) (hy : IsI Y y k b) (hr : decide (a < b) = r) : OrcOk Y (.bin .lss x y (.bool r)) :=
  ⟨_, _, .bool r, hx, hy, fun _ => rfl, .inr ⟨_, _, _, _, rfl, rfl⟩, fun P t w => by subst hr; simp [binOp, Op.intCmp]⟩
theorem orc_gtr {x y : AV} {k : IntKind} {a b : Int} {r : Bool} (hx : IsI Y x k a) (hy : IsI Y y k b) (hr : decide (b < a) = r) : OrcOk Y (.bin .gtr x y (.bool r)) :=
  ⟨_, _, .bool r, hx, hy, fun _ => rfl, .inr ⟨_, _, _, _, rfl, rfl⟩, fun P t w => by subst hr; simp [binOp, Op.intCmp]⟩

theorem tdiv_abs {a b m : Int} (h1 : -m ≤ a) (h2 : a ≤ m) : -m ≤ a.tdiv b ∧ a.tdiv b ≤ m := by
  have h := Int.natAbs_tdiv a b
  have h3 : (a.tdiv b).natAbs ≤ a.natAbs := by
    rw [h]
    exact Nat.div_le_self _ _
  omega

theorem tmod_abs {a b m : Int} (h1 : -m ≤ a) (h2 : a ≤ m) : -m ≤ a.tmod b ∧ a.tmod b ≤ m := by
  have h3 : (a.tmod b).natAbs ≤ a.natAbs := by
    rw [Int.natAbs_tmod]
    exact Nat.mod_le _ _
  omega

theorem orc_quo {x y z : AV} {a b : Int} (hx : IsI Y x .i64 a) (hy : IsI Y y .i64 b) (hb : b ≠ 0) (h1 : -9007199254740992 ≤ a) (h2 : a ≤ 9007199254740992) (hz : IsI Y z .i64 (a.tdiv b)) : OrcOk Y (.bin .quo x y z) :=
  ⟨_, _, _, hx, hy, hz, .inr ⟨_, _, _, _, rfl, rfl⟩, fun P t w => by
    have hq := tdiv_abs (b := b) h1 h2
    have hw : IntKind.wrap .i64 (a.tdiv b) = a.tdiv b := wrap_id (k := .i64) (by show (-9223372036854775808 : Int) ≤ _; omega) (by show _ ≤ (9223372036854775807 : Int); omega)
    simp [binOp, Op.intDiv, hb, hw]⟩
theorem orc_rem {x y z : AV} {a b : Int} (hx : IsI Y x .i64 a) (hy : IsI Y y .i64 b) (hb : b ≠ 0) (hz : IsI Y z .i64 (a.tmod b)) : OrcOk Y (.bin .rem x y z) :=
  ⟨_, _, _, hx, hy, hz, .inr ⟨_, _, _, _, rfl, rfl⟩, fun P t w => by simp [binOp, Op.intDiv, hb]⟩
theorem orc_shl {x y z : AV} {k k' : IntKind} {a b : Int} (hx : IsI Y x k a) (hy : IsI Y y k' b) (hb : 0 ≤ b) (hz : IsI Y z k (k.wrap (a * 2 ^ min b.toNat k.bits))) : OrcOk Y (.bin .shl x y z) :=
  ⟨_, _, _, hx, hy, hz, .inr ⟨_, _, _, _, rfl, rfl⟩, fun P t w => by
    have : ¬ b < 0 := by omega
    simp [binOp, Op.shift, this]⟩
theorem orc_shr {x y z : AV} {k k' : IntKind} {a b : Int} (hx : IsI Y x k a) (hy : IsI Y y k' b) (hb : 0 ≤ b) (hz : IsI Y z k (a.fdiv (2 ^ min b.toNat k.bits))) : OrcOk Y (.bin .shr x y z) :=
  ⟨_, _, _, hx, hy, hz, .inr ⟨_, _, _, _, rfl, rfl⟩, fun P t w => by
    have : ¬ b < 0 := by omega
    simp [binOp, Op.shift, this]⟩
theorem orc_cat {x y z : AV} {s t : ByteArray} (hx : IsS Y x s) (hy : IsS Y y t) (h : s.size + t.size ≤ 1000000) (hz : IsS Y z (s ++ t)) : OrcOk Y (.bin .add x y z) :=
  ⟨_, _, _, hx, hy, hz, .inl ⟨_, _, rfl, rfl⟩, fun P t' w => by
    have : ¬ ((s.size + t.size : Nat) : Int) > IntKind.i64.max := by
      show ¬ _ > (9223372036854775807 : Int)
      omega
    simp only [binOp, Op.stringOp, this, if_false]
    rfl⟩

theorem orc_from {x z : AV} {s : ByteArray} {n : Nat} (hx : IsS Y x s) (hn : n ≤ s.size) (hz : IsS Y z (s.extract n s.size)) : OrcOk Y (.cut x (some (.i64 n)) none z) :=
  ⟨s, n, s.size, hx, hn, Nat.le_refl _, ⟨.i64, fun _ => rfl⟩, rfl, hz⟩

theorem orc_at {x z : AV} {s : ByteArray} {n : Nat} {b : UInt8} (hx : IsS Y x s) (hb : s[n]? = some b) (hz : IsI Y z .u8 b.toNat) : OrcOk Y (.idx x (.i64 n) z) :=
  ⟨s, n, .i64, b, hx, fun _ => rfl, hb, hz⟩

theorem orcs_nil {q : Orc} (h : q ∈ ([] : List Orc)) : OrcOk Y q := by cases h
theorem orcs_cons {p : Orc} {l : List Orc} (hp : OrcOk Y p) (hl : ∀ q ∈ l, OrcOk Y q) : ∀ q ∈ p :: l, OrcOk Y q := fun q hq => by
  rcases List.mem_cons.1 hq with rfl | h
  · exact hp
  · exact hl q h
theorem facts_nil : ∀ e l h, (e, l, h) ∈ ([] : List (SX × Int × Int)) → l ≤ e.val Y ∧ e.val Y ≤ h := fun _ _ _ h => by cases h
theorem facts_cons {e : SX} {l h : Int} {fs : List (SX × Int × Int)} (h1 : l ≤ e.val Y) (h2 : e.val Y ≤ h) (hf : ∀ e l h, (e, l, h) ∈ fs → l ≤ e.val Y ∧ e.val Y ≤ h) : ∀ e' l' h', (e', l', h') ∈ (e, l, h) :: fs → l' ≤ e'.val Y ∧ e'.val Y ≤ h' := fun e' l' h' hm => by
  rcases List.mem_cons.1 hm with h | h
  · cases h; exact ⟨h1, h2⟩
  · exact hf _ _ _ h

/-- a value's cells: its kind, its number, its string, whatever stands for them -/
theorem concs_val {a b c : AV} {k n : Int} {s : ByteArray} (h1 : IsI Y a .i64 k) (h2 : IsI Y b .i64 n) (h3 : IsS Y c s) (ρ : Rho) : concs Y ρ [a, b, c] = some [.int .i64 k, .int .i64 n, .string s] :=
  concs_cons.2 ⟨_, _, h1 ρ, concs_cons.2 ⟨_, _, h2 ρ, concs_cons.2 ⟨_, _, h3 ρ, rfl, rfl⟩, rfl⟩, rfl⟩

theorem conc_val {a b c : AV} {k n : Int} {s : ByteArray} (h1 : IsI Y a .i64 k) (h2 : IsI Y b .i64 n) (h3 : IsS Y c s) (hc : ([a, b, c] : List AV).all isCell = true) (ρ : Rho) : conc Y ρ (.agg [a, b, c]) = some (vC k n s) := by
  rw [conc, if_pos hc, concs_val h1 h2 h3 ρ]
  rfl

/-- two values: whether they are the same -/
def sameW (k n : Int) (s : ByteArray) (k' n' : Int) (s' : ByteArray) : Bool := k == k' && (n == n' && s.toList == s'.toList)

theorem eqStr_of (a b : ByteArray) : eqStr (bytesOf a) (bytesOf b) = (a.toList == b.toList) := by
  rw [eqStr_bytes (bytesOf_ok a).1 (bytesOf_ok b).1, (bytesOf_ok a).2, (bytesOf_ok b).2]

theorem orc_same {a b c a' b' c' : AV} {k n k' n' : Int} {s s' : ByteArray} {r : Bool} (h1 : IsI Y a .i64 k) (h2 : IsI Y b .i64 n) (h3 : IsS Y c s) (h4 : IsI Y a' .i64 k') (h5 : IsI Y b' .i64 n') (h6 : IsS Y c' s') (hr : sameW k n s k' n' s' = r) : OrcOk Y (.eqa [1, 1, 2] [a, b, c] [a', b', c'] r) := by
  subst hr
  have hs : ∀ u : ByteArray, IsS Y (.str (bytesOf u)) u := fun u ρ => by
    have := isS_str (Y := Y) (bytesOf_ok u).1 ρ
    rw [(bytesOf_ok u).2] at this
    exact this
  refine ⟨[.i64 k, .i64 n, .str (bytesOf s)], [.i64 k', .i64 n', .str (bytesOf s')], _, _, concs_val h1 h2 h3, concs_val h4 h5 h6, concs_val (isI_64 _) (isI_64 _) (hs s), concs_val (isI_64 _) (isI_64 _) (hs s'), ?_⟩
  have e1 : eqKd 1 (.i64 k) (.i64 k') = some (k == k') := by show some (eqI k k') = _; rw [eqI_eq]
  have e2 : eqKd 1 (.i64 n) (.i64 n') = some (n == n') := by show some (eqI n n') = _; rw [eqI_eq]
  have e3 : eqKd 2 (.str (bytesOf s)) (.str (bytesOf s')) = some (s.toList == s'.toList) := by show some (eqStr _ _) = _; rw [eqStr_of]
  simp only [eqCells, e1, e2, e3, sameW]
  cases (k == k') <;> cases (n == n') <;> cases (s.toList == s'.toList) <;> rfl

end

end Go.AE
