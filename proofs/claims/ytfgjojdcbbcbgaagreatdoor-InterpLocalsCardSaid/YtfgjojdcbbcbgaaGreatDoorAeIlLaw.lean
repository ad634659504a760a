/-
  The law InterpLocals: every call returns true.
-/
import Derived.Test.YtfgjojdcbbcbgaaGreatDoorAeIlRun1
import Derived.Test.YtfgjojdcbbcbgaaGreatDoorAeIlRun2
namespace Go.Proofs.YtfgjojdcbbcbgaaGreatDoor
open Go.AE
set_option maxRecDepth 100000

abbrev Says (a b n : Int) (w : World) : Prop := Calls Tryz.prog 3 #[.int .i64 a, .int .i64 b, .int .i64 n] w fun e w' => e = .returned (.bool true) ∧ RowKit.Below w.heap.size w w'

def syI (a b n m : Int) : Sy := ⟨fun i => [a, b, n, 0, 0, 0, 0, 0, 0, m].getD i 0, fun _ => ByteArray.empty, fun _ => (none, 0, 0), fun _ => undef⟩

theorem il_says {a b n m : Int} {w : World} (hv : Vars w m) {args : List AV} (hrun : Il args) (hargs : ∀ ρ, concs (syI a b n m) ρ args = some [.int .i64 a, .int .i64 b, .int .i64 n]) : Says a b n w := by
  refine (laid_of_rec (rcP_ok (syI a b n m) (SumsOk.cons (qAwake_ok _) SumsOk.nil)) (Nat.le_refl 1) hrun (hargs _) (laidW_of hv rfl)).mono fun e w' he => ?_
  obtain ⟨cv, rfl, h1, h2⟩ := he
  cases h1
  exact ⟨rfl, h2⟩

theorem sint_conc {Y : Sy} {ρ : Rho} {i : Nat} {l h x : Int} (hx : Y.ints i = x) (h1 : l ≤ x) (h2 : x ≤ h) : conc Y ρ (.sint .i64 (.var i) l h) = some (.int .i64 x) := by
  subst hx
  exact if_pos ⟨h1, h2⟩

theorem args_conc {a b n m : Int} {a1 a2 b1 b2 n1 n2 : Int} (ha : a1 ≤ a ∧ a ≤ a2) (hb : b1 ≤ b ∧ b ≤ b2) (hn : n1 ≤ n ∧ n ≤ n2) (ρ : Rho) : concs (syI a b n m) ρ (ilArgs a1 a2 b1 b2 n1 n2) = some [.int .i64 a, .int .i64 b, .int .i64 n] :=
  concs_cons.2 ⟨_, _, sint_conc rfl ha.1 ha.2, concs_cons.2 ⟨_, _, sint_conc rfl hb.1 hb.2, concs_cons.2 ⟨_, _, sint_conc rfl hn.1 hn.2, rfl, rfl⟩, rfl⟩, rfl⟩

theorem args0_conc {a b n m : Int} (ha : -9007199254740992 ≤ a ∧ a ≤ 9007199254740992) (hb : -9007199254740992 ≤ b ∧ b ≤ 9007199254740992) (ρ : Rho) : concs (syI a b n m) ρ (ilArgs0 n) = some [.int .i64 a, .int .i64 b, .int .i64 n] :=
  concs_cons.2 ⟨_, _, sint_conc rfl ha.1 ha.2, concs_cons.2 ⟨_, _, sint_conc rfl hb.1 hb.2, rfl, rfl⟩, rfl⟩

/-- every call returns true -/
theorem il_calls {a b n m : Int} {w : World} (hv : Vars w m) (ha : lo64 ≤ a ∧ a ≤ hi64) (hb : lo64 ≤ b ∧ b ≤ hi64) (hn : lo64 ≤ n ∧ n ≤ hi64) : Says a b n w := by
  rcases Int.lt_or_le a (-9007199254740992) with h | h1
  · exact il_says hv run_a_lo (args_conc ⟨ha.1, by omega⟩ hb hn)
  rcases Int.lt_or_le 9007199254740992 a with h | h2
  · exact il_says hv run_a_hi (args_conc ⟨by omega, ha.2⟩ hb hn)
  rcases Int.lt_or_le b (-9007199254740992) with h | h3
  · exact il_says hv run_b_lo (args_conc ⟨h1, h2⟩ ⟨hb.1, by omega⟩ hn)
  rcases Int.lt_or_le 9007199254740992 b with h | h4
  · exact il_says hv run_b_hi (args_conc ⟨h1, h2⟩ ⟨by omega, hb.2⟩ hn)
  rcases Int.lt_or_le n 0 with h | h5
  · exact il_says hv run_n_lo (args_conc ⟨h1, h2⟩ ⟨h3, h4⟩ ⟨hn.1, by omega⟩)
  rcases Int.lt_or_le 1 n with h | h6
  · exact il_says hv run_n_hi (args_conc ⟨h1, h2⟩ ⟨h3, h4⟩ ⟨by omega, hn.2⟩)
  have h7 : n = 0 ∨ n = 1 := by omega
  rcases h7 with rfl | rfl
  · exact il_says hv run_n0 (args0_conc ⟨h1, h2⟩ ⟨h3, h4⟩)
  · exact il_says hv run_n1 (args0_conc ⟨h1, h2⟩ ⟨h3, h4⟩)

end Go.Proofs.YtfgjojdcbbcbgaaGreatDoor
