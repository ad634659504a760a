/-
  The tables of the evaluator for this seat; the package variable that the law's runs read; a call that leaves nothing behind.
-/
import Derived.Test.YtmebfcdgbjkcfaaGreatDoorProg
import Derived.Test.YtmebfcdgbjkcfaaGreatDoorAeGlob
import Derived.Test.YtmebfcdgbjkcfaaGreatDoorAeSnap
import Derived.Test.YtmebfcdgbjkcfaaGreatDoorAeCls
namespace Go.AE

/-! ### A block out of another one -/
noncomputable def setAt : List (Nat × AV) → T AV → T AV
  | [], c => c
  | (i, v) :: r, c => setAt r (putV c i v)

/-- a row: some cells turned, some added -/
noncomputable def edR (t : T AObj) (b : Nat) (es : List (Nat × AV)) (new : List AV) (gs : Nat) : AObj :=
  match getO t b with
  | some (.cells c n _) => forceN (Nat.add n new.length) fun m => .cells (putCells (setAt es c) n new) m gs
  | _ => .dead

/-- a map: some entries added -/
noncomputable def edM (t : T AObj) (b : Nat) (new : List AEnt) (n : Nat) : AObj :=
  match getO t b with
  | some (.map es _) => .map (es ++ new) n
  | _ => .dead

section
variable {Y : Sy} {E : Env}

/-- a call that leaves nothing behind takes no numbers -/
theorem quiet_ok {q : Sum} (h : SumOk Y E q) (hn : q.new = []) (hp : ∀ b o, q.before.get b = some o → memN q.prot b = true) (hv : ∀ ρ ρ' : Rho, conc Y ρ q.v = conc Y ρ' q.v) : SumOk Y E { q with stop := q.start } := by
  refine ⟨h.1, fun ρ w cargs hr hg ha => (h.2 ρ w cargs hr hg ha).mono fun e w' he => ?_⟩
  obtain ⟨cv, ρ', rfl, hgo, hcv⟩ := he
  have hbel : RowKit.Below w.heap.size w w' := by
    refine ⟨hgo.frm.os, hgo.frm.tape, hgo.frm.output, hgo.frm.size, fun k hk' => hgo.frm.block k hk' fun b o L hb hw => ?_⟩
    exfalso
    have h1 := wr_prot hw
    have h2 : memN q.before.prot b = true := hp b o hb
    rw [h2] at h1
    cases h1
  refine ⟨cv, ρ, rfl, ?_, by rw [hv ρ ρ']; exact hcv⟩
  have e : Sum.behind { q with stop := q.start } = q.before := by
    unfold Sum.behind Sum.before
    simp only [hn]
    rfl
  rw [e]
  exact Goes.of_below hr hbel

end
end Go.AE

namespace Go.Proofs.YtmebfcdgbjkcfaaGreatDoor
open Go.AE
set_option maxRecDepth 100000

abbrev lo64 : Int := -9223372036854775808
abbrev hi64 : Int := 9223372036854775807

theorem env_noNum : noNum Tryz.prog.funcs.toList = true := by kernel_rfl
theorem env_eqs : eqsOk Tryz.prog [(7, [1, 1, 0, 1]), (8, [1, 1, 0, 1]), (25, [1, 1, 1, 1, 1, 1, 1]), (26, [1, 1, 1, 1, 1, 1, 1]), (29, [1, 1, 2]), (30, [1, 1, 2]), (31, [1, 1, 1, 1, 2]), (32, [1, 1, 1, 1, 2]), (72, [1, 2, 1, 1, 1]), (73, [1, 2, 1, 1, 1]), (92, [1, 1, 1]), (93, [1, 1, 1]), (109, [1, 1, 2]), (125, [1, 1, 2, 1, 1, 1, 2, 1, 1, 2, 1, 1, 2]), (126, [1, 1, 2, 1, 1, 1, 2, 1, 1, 2, 1, 1, 2]), (131, [1, 2, 1, 0, 1, 1]), (132, [1, 2, 1, 0, 1, 1]), (160, [1, 1, 1, 2, 1, 1]), (161, [1, 1, 1, 2, 1, 1]), (198, [1, 1, 1, 2, 2]), (199, [1, 1, 1, 2, 2]), (201, [1, 1, 1, 1, 2, 1, 1, 2, 1, 1, 2]), (202, [1, 1, 1, 1, 2, 1, 1, 2, 1, 1, 2]), (290, [1, 1, 2, 1, 1, 0, 1]), (291, [1, 1, 2, 1, 1, 0, 1]), (307, [1, 1, 1, 2, 1]), (308, [1, 1, 1, 2, 1]), (446, [1, 1]), (447, [1, 1]), (505, [2, 1, 1]), (584, [1, 1, 2, 0]), (585, [1, 1, 2, 0])] = true := by kernel_rfl
theorem env_mixed : Tryz.prog.follows .mixedOrders = true := by kernel_rfl
theorem env_types : Nat.blt 0 Tryz.prog.types.size = true := by kernel_rfl

/-- with one variable that is read -/
noncomputable def env : Env := envOf Tryz.prog [(7, [1, 1, 0, 1]), (8, [1, 1, 0, 1]), (25, [1, 1, 1, 1, 1, 1, 1]), (26, [1, 1, 1, 1, 1, 1, 1]), (29, [1, 1, 2]), (30, [1, 1, 2]), (31, [1, 1, 1, 1, 2]), (32, [1, 1, 1, 1, 2]), (72, [1, 2, 1, 1, 1]), (73, [1, 2, 1, 1, 1]), (92, [1, 1, 1]), (93, [1, 1, 1]), (109, [1, 1, 2]), (125, [1, 1, 2, 1, 1, 1, 2, 1, 1, 2, 1, 1, 2]), (126, [1, 1, 2, 1, 1, 1, 2, 1, 1, 2, 1, 1, 2]), (131, [1, 2, 1, 0, 1, 1]), (132, [1, 2, 1, 0, 1, 1]), (160, [1, 1, 1, 2, 1, 1]), (161, [1, 1, 1, 2, 1, 1]), (198, [1, 1, 1, 2, 2]), (199, [1, 1, 1, 2, 2]), (201, [1, 1, 1, 1, 2, 1, 1, 2, 1, 1, 2]), (202, [1, 1, 1, 1, 2, 1, 1, 2, 1, 1, 2]), (290, [1, 1, 2, 1, 1, 0, 1]), (291, [1, 1, 2, 1, 1, 0, 1]), (307, [1, 1, 1, 2, 1]), (308, [1, 1, 1, 2, 1]), (446, [1, 1]), (447, [1, 1]), (505, [2, 1, 1]), (584, [1, 1, 2, 0]), (585, [1, 1, 2, 0])] 1 []
theorem env_ok (Y : Sy) : EnvOk Y env := envOk_of env_noNum env_eqs env_mixed env_types (fun _ _ _ h => by cases h)

/-- array.hole: a value of kind 8 -/
noncomputable def gHole : Nat × AObj := (0, .held (ofListV [.i64 8, .i64 0, .str []]) 3 true)

/-- what the law finds in the variable -/
structure Vars (W : World) : Prop where
  hole : ∃ t fr, W.heap[0]? = some (.cells #[.int .i64 8, .int .i64 0, .string ByteArray.empty] t fr)

theorem laidW_of {Y : Sy} {W : World} (h : Vars W) : LaidW Y env [gHole] W := by
  obtain ⟨t, fr, h0⟩ := h.hole
  have h1 : 0 < W.heap.size := by
    rcases Nat.lt_or_ge 0 W.heap.size with h' | h'
    · exact h'
    · rw [Array.getElem?_eq_none h'] at h0; cases h0
  refine ⟨h1, fun b o hbo => ?_⟩
  have h3 := List.mem_singleton.1 hbo
  unfold gHole at h3
  obtain ⟨rfl, rfl⟩ := Prod.mk.inj h3
  refine ⟨by show 0 < 1; omega, _, h0, _, t, fr, rfl, by simp, fun _ => by simp, fun i v hv => ?_⟩
  rw [get_ofListV] at hv
  match i, hv with
  | 0, hv => cases hv; exact ⟨by omega, rfl, _, rfl, rfl⟩
  | 1, hv => cases hv; exact ⟨by omega, rfl, _, rfl, rfl⟩
  | 2, hv => cases hv; exact ⟨by omega, rfl, _, rfl, rfl⟩

/-- the examples -/
noncomputable def qAwake : Sum := ⟨4, [], 1, [gHole], .bool true, [], 2309, [0]⟩
theorem qAwake_run : evSm env [] [] 300 100 (.fn qAwake.f) qAwake.args qAwake.before qAwake.ask = true := by kernel_rfl
theorem qAwake_ok (Y : Sy) : SumOk Y env qAwake := sum_of_run (env_ok Y) KnownOk.nil SumsOk.nil (by kernel_rfl) qAwake_run
noncomputable def qQuiet : Sum := { qAwake with stop := 1 }
theorem qQuiet_ok (Y : Sy) : SumOk Y env qQuiet := quiet_ok (qAwake_ok Y) rfl (fun b o h => by
  unfold Sum.before at h
  rw [H.get_bare] at h
  rcases get_putAll (b := b) qAwake.old with ⟨h1, _⟩ | ⟨_, h2⟩
  · obtain ⟨o', ho'⟩ := memF_iff.1 h1
    have := List.mem_singleton.1 ho'
    unfold gHole at this
    obtain ⟨rfl, _⟩ := Prod.mk.inj this
    rfl
  · rw [h2] at h; cases h) (fun _ _ => rfl)

end Go.Proofs.YtmebfcdgbjkcfaaGreatDoor
