/-
  The tables of the evaluator for this seat; blocks out of others; a configuration.
-/
import Derived.Test.YtjokmjjecendaaaGreatDoorProg
import Derived.Test.YtjokmjjecendaaaGreatDoorAeKit4
import Derived.Test.YtjokmjjecendaaaGreatDoorAeKit3
namespace Go.AE

/-! ### A block out of another one -/
noncomputable def setAt : List (Nat × AV) → T AV → T AV
  | [], c => c
  | (i, v) :: r, c => setAt r (putV c i v)

/-- a row: some cells turned, some added -/
noncomputable def edR (t : T AObj) (b : Nat) (es : List (Nat × AV)) (new : List AV) (gs : Nat) : AObj :=
  match getO t b with
  | some (.cells c n _) => forceN (Nat.add n new.length) fun m => .cells (putCells (setAt es c) n new) m gs
  | _ => .dead

/-- a map: some entries added -/
noncomputable def edM (t : T AObj) (b : Nat) (new : List AEnt) (n : Nat) : AObj :=
  match getO t b with
  | some (.map es _) => .map (es ++ new) n
  | _ => .dead

/-! ### The same state under other numbers -/
noncomputable def mapT (g : AV → AV) (t : T AV) : T AV :=
  T.rec (motive := fun _ => T AV) .nil (fun _ v _ il ir => .node il (Option.rec (motive := fun _ => Option AV) none (fun x => some (g x)) v) ir) t

noncomputable def renStep (f : Nat → Nat) (ih : AV → AV) : AV → AV
  | .ptr b o => .ptr (f b) o
  | .slice b o l c => .slice (f b) o l c
  | .gslice b o l c => .gslice (f b) o l c
  | .eslice b o l c e => .eslice (f b) o l c e
  | .map b => .map (f b)
  | .agg l => .agg (l.map ih)
  | .tuple l => .tuple (l.map ih)
  | .iface t v => .iface t (ih v)
  | v => v

noncomputable def renV (f : Nat → Nat) : AV → AV := Nat.rec (motive := fun _ => AV → AV) (fun v => v) (fun _ ih => renStep f ih) 4

noncomputable def renO (f : Nat → Nat) : AObj → AObj
  | .cells c n gs => .cells (mapT (renV f) c) n gs
  | .map es cl => .map (es.map fun e => ⟨renV f e.key, renV f e.val, e.born⟩) cl
  | o => o

noncomputable def setO (es : List (Nat × AV)) : AObj → AObj
  | .cells c n gs => .cells (setAt es c) n gs
  | o => o

noncomputable def renL (f : Nat → Nat) (ed : Nat → AObj → AObj) (l : List (Nat × AObj)) : List (Nat × AObj) := l.map fun p => (f p.1, ed (f p.1) (renO f p.2))

/-- a call's outcome, its blocks under other numbers, some of them turned -/
noncomputable def renSum (f : Nat → Nat) (ed : Nat → AObj → AObj) (q : Sum) : Sum := ⟨q.f, q.args.map (renV f), f q.start, renL f ed q.old, renV f q.v, renL f ed q.new, f q.stop, []⟩

section
variable {Y : Sy} {E : Env}

/-- numbers may be left out behind a call -/
theorem stop_up {q : Sum} (h : SumOk Y E q) {m : Nat} (hm : q.stop ≤ m) : SumOk Y E { q with stop := m } := by
  refine ⟨h.1, fun ρ w cargs hr hg ha => (h.2 ρ w cargs hr hg ha).mono fun e w' he => ?_⟩
  obtain ⟨cv, ρ', rfl, hgo, hcv⟩ := he
  exact ⟨cv, ρ', rfl, ⟨hgo.le, ⟨hgo.rel.obj, hgo.rel.inj, fun b hb => hgo.rel.fresh b (Nat.le_trans hm hb), hgo.rel.bound⟩, hgo.frm,
    ⟨hgo.keeps.mask, hgo.keeps.prot, Nat.le_trans hgo.keeps.next hm, hgo.keeps.raw, hgo.keeps.old⟩, hgo.made, hgo.same⟩, hcv⟩

end
end Go.AE

namespace Go.Proofs.YtjokmjjecendaaaGreatDoor
open Go.AE
set_option maxRecDepth 100000

abbrev lo64 : Int := -9223372036854775808
abbrev hi64 : Int := 9223372036854775807

noncomputable def env : Env := envOf Tryz.prog [(7, [1, 1, 0, 1]), (8, [1, 1, 0, 1]), (22, [1, 1, 1, 1, 1, 1, 1]), (23, [1, 1, 1, 1, 1, 1, 1]), (32, [1, 1, 2]), (33, [1, 1, 2]), (65, [1, 1, 1]), (66, [1, 1, 1]), (76, [1, 1, 2]), (81, [1, 2, 1, 0, 1, 1]), (82, [1, 2, 1, 0, 1, 1]), (109, [1, 1, 1, 1, 2]), (110, [1, 1, 1, 1, 2]), (114, [1, 1, 1, 2, 2]), (115, [1, 1, 1, 2, 2]), (128, [1, 1, 2, 1, 1, 1, 2, 1, 1, 2, 1, 1, 2]), (129, [1, 1, 2, 1, 1, 1, 2, 1, 1, 2, 1, 1, 2]), (142, [1, 1, 1, 2, 1, 1]), (143, [1, 1, 1, 2, 1, 1]), (265, [1, 1, 1, 1, 2, 1, 1, 2, 1, 1, 2]), (266, [1, 1, 1, 1, 2, 1, 1, 2, 1, 1, 2]), (283, [1, 1, 2, 1, 1, 0, 1]), (284, [1, 1, 2, 1, 1, 0, 1]), (302, [1, 1, 1, 2, 1]), (303, [1, 1, 1, 2, 1]), (326, [2, 1, 1]), (442, [1, 1]), (443, [1, 1]), (460, []), (486, [1, 1, 2, 0]), (487, [1, 1, 2, 0])] 0 []

theorem env_noNum : noNum Tryz.prog.funcs.toList = true := by kernel_rfl
theorem env_eqs : eqsOk Tryz.prog [(7, [1, 1, 0, 1]), (8, [1, 1, 0, 1]), (22, [1, 1, 1, 1, 1, 1, 1]), (23, [1, 1, 1, 1, 1, 1, 1]), (32, [1, 1, 2]), (33, [1, 1, 2]), (65, [1, 1, 1]), (66, [1, 1, 1]), (76, [1, 1, 2]), (81, [1, 2, 1, 0, 1, 1]), (82, [1, 2, 1, 0, 1, 1]), (109, [1, 1, 1, 1, 2]), (110, [1, 1, 1, 1, 2]), (114, [1, 1, 1, 2, 2]), (115, [1, 1, 1, 2, 2]), (128, [1, 1, 2, 1, 1, 1, 2, 1, 1, 2, 1, 1, 2]), (129, [1, 1, 2, 1, 1, 1, 2, 1, 1, 2, 1, 1, 2]), (142, [1, 1, 1, 2, 1, 1]), (143, [1, 1, 1, 2, 1, 1]), (265, [1, 1, 1, 1, 2, 1, 1, 2, 1, 1, 2]), (266, [1, 1, 1, 1, 2, 1, 1, 2, 1, 1, 2]), (283, [1, 1, 2, 1, 1, 0, 1]), (284, [1, 1, 2, 1, 1, 0, 1]), (302, [1, 1, 1, 2, 1]), (303, [1, 1, 1, 2, 1]), (326, [2, 1, 1]), (442, [1, 1]), (443, [1, 1]), (460, []), (486, [1, 1, 2, 0]), (487, [1, 1, 2, 0])] = true := by kernel_rfl
theorem env_mixed : Tryz.prog.follows .mixedOrders = true := by kernel_rfl
theorem env_types : Nat.blt 0 Tryz.prog.types.size = true := by kernel_rfl

theorem env_ok (Y : Sy) : EnvOk Y env := envOk_of env_noNum env_eqs env_mixed env_types (fun _ _ _ h => by cases h)

/-- a configuration -/
def cfgC (l0 l1 l2 l3 l4 l5 l6 : Int) : Value := .agg #[.int .i64 l0, .int .i64 l1, .int .i64 l2, .int .i64 l3, .int .i64 l4, .int .i64 l5, .int .i64 l6]
def fit (n : Int) : Prop := lo64 ≤ n ∧ n ≤ hi64

/-- what is set where a realm has the law's configuration -/
noncomputable def cfgCells : List (Nat × AV) := [(4, .sint .i64 (.var 10) 0 400), (5, .sint .i64 (.var 11) 1 31), (6, .sint .i64 (.var 12) 0 200), (7, .sint .i64 (.var 13) 0 9), (8, .sint .i64 (.var 14) 0 9)]

/-- the examples' set-up, in the law's own realm -/
noncomputable def fM (b : Nat) : Nat := Nat.add b 100000
noncomputable def edM' (b : Nat) (o : AObj) : AObj := match Nat.beq b 100008 with | true => setO cfgCells o | false => o
noncomputable def sumM (q : Sum) : Sum := renSum fM edM' q

/-- .. in the pair's realm: it has a host and more roots -/
noncomputable def fN (b : Nat) : Nat := match Nat.blt b 471 with | true => Nat.add b 87 | false => (match Nat.beq b 471 with | true => 5354 | false => Nat.add b 4887)
noncomputable def rootsN : AObj := rowObj [.i64 7, .i64 1, .str [], .i64 7, .i64 3, .str [], .i64 7, .i64 5, .str [], .i64 7, .i64 7, .str [], .i64 7, .i64 9, .str [], .i64 7, .i64 11, .str [], .i64 7, .i64 13, .str [], .i64 7, .i64 15, .str [], .i64 7, .i64 17, .str [], .i64 7, .i64 19, .str [], .i64 7, .i64 21, .str [], .i64 7, .i64 23, .str [], .i64 7, .i64 25, .str [], .i64 7, .i64 27, .str [], .i64 7, .i64 29, .str [], .i64 7, .i64 31, .str [], .i64 7, .i64 33, .str [], .i64 7, .i64 35, .str [], .i64 9, .i64 37, .str [], .i64 9, .i64 39, .str [], .i64 7, .i64 1, .str [], .i64 7, .i64 3, .str [], .i64 7, .i64 5, .str [], .i64 7, .i64 7, .str [], .i64 7, .i64 9, .str [], .i64 7, .i64 11, .str [], .i64 7, .i64 13, .str [], .i64 7, .i64 15, .str [], .i64 7, .i64 17, .str [], .i64 7, .i64 19, .str [], .i64 7, .i64 21, .str [], .i64 7, .i64 23, .str [], .i64 7, .i64 25, .str [], .i64 7, .i64 27, .str [], .i64 7, .i64 29, .str [], .i64 7, .i64 31, .str [], .i64 7, .i64 33, .str [], .i64 7, .i64 35, .str []] 3
noncomputable def edN (b : Nat) (o : AObj) : AObj :=
  match Nat.beq b 95 with
  | true => setO ((10, .iface 62 (.agg [.slice 85 0 13 13])) :: cfgCells) o
  | false => match Nat.beq b 91 with
    | true => setO [(2, .gslice 5354 0 38 0)] o
    | false => match Nat.beq b 5354 with
      | true => rootsN
      | false => o
noncomputable def sumN (q : Sum) : Sum := renSum fN edN q

end Go.Proofs.YtjokmjjecendaaaGreatDoor
