/-
  The first loop of GeneratorBoxes: it goes over all elements, however many; each is tested.
-/
import Derived.Test.YtnkjembkhjellaaGreatDoorAeBoxDef
namespace Go.AE

section
variable {Y : Sy} {E : Env} {ρ : Rho} {h : H} {w : World}

theorem defersOf_false : ∀ (fs : List Bool) (i : Nat), (fs.all fun b => !b) = true → defersOf fs i = []
  | [], _, _ => rfl
  | true :: _, _, h => by simp at h
  | false :: fs, i, h => by
    simp only [defersOf]
    exact defersOf_false fs (i + 1) (by simpa using h)

/-- what a region leaves whose first operations were stepped through by hand -/
theorem region_from (hE : EnvOk Y E) (hE0 : E.ng = 0) {rc : Rec} (hrc : RecOk Y E rc) {L : Lv} (hng : L.ng = E.ng) {nt n : Nat} {arr : Array Oper} {i : Nat} {l : List Oper} {ds : List (Option Tmp)} {env : List AV} {tm : T AV} {fl : List (Nat × P2)} {w0 : World} {a : Act} {k : KT} {Q : Exit → Act → World → Prop}
    (hl : arr.toList.drop i = l) (hfl : flushOf L nt ((l.map fun o => o.dst).reverse ++ ds) 0 [] = some fl) (hdf : ((l.map fun o => isDf (cOp E o.op)).reverse.all fun b => !b) = true)
    (hr : Rel Y E ρ h w) (he : ERel Y ρ L ds env tm a.tmps) (hs : a.tmps.size = nt) (hd : DefsRel Y ρ [] a.defers) (hb : Base w0 ρ h w)
    (hk : (cOps E L arr.toList l ds).run rc tm env h (fun env' h' => k (flush fl env' tm) [] h') = true)
    (hQ : ∀ a' w', LeavesB Y E w0 L nt k a' w' → Q .normal a' w') : wpOpsIn (fence none) n E.P arr Q (List.range' i l.length) a w := by
  have hg : Glob E ρ := fun g h => by rw [hE0] at h; exact absurd h (Nat.not_lt_zero _)
  refine ops_ok hE hrc hng l i ds [] env [] ρ h w a hl hr hg he hs (fun o ho d hd => ?_) (.inl rfl) rfl hk ?_
  · refine flushOf_lt hfl d (List.mem_append_left _ ?_)
    rw [List.mem_reverse, List.mem_map]
    exact ⟨o, ho, hd⟩
  · intro ρ' h' w' a' env' more hgo he' hs' hdr hdf' hk'
    have hm : more = [] := by
      have := defersOf_nil _ 0 _ _ (defersOf_false _ 0 hdf) (by simpa using hdr)
      simpa using this
    subst hm
    refine hQ a' w' ⟨ρ', h', _, [], hgo.rel, ⟨he'.flush hfl, hs', ?_⟩, hb.goes hr hgo, hk'⟩
    rw [hdf']
    exact hd.mono hgo.le

/-- an operation that only computes, stepped through -/
theorem stepV {P : Program} {n : Nat} {arr : Array Oper} {i m : Nat} {o : Oper} {v : Value} {a : Act} {Q : Exit → Act → World → Prop} (ho : arr[i]? = some o) (hgd : o.guard = none) (hnd : ∀ c, o.op ≠ .defer c)
    (hex : (execOp a.eval o).run P w = .ok (.value v) w) (hn : wpOpsIn (fence none) n P arr Q (List.range' (i + 1) m) (a.put o.dst v) w) : wpOpsIn (fence none) n P arr Q (List.range' i (m + 1)) a w := by
  have hlen : List.range' i (m + 1) = i :: List.range' (i + 1) m := by simp [List.range'_succ]
  rw [hlen]
  simp only [wpOpsIn, ho]
  have hw : Region.wanted o (yielded arr a.tmps) = true := by simp [Region.wanted, hgd]
  rw [hw, if_pos rfl]
  refine ⟨fun _ _ => trivial, ?_⟩
  have e : o.semAt (fence none).round a.eval = execOp a.eval o := Oper.semAt_eq _ _ _ hnd
  rw [e, hex]
  exact hn

end
end Go.AE

namespace Go.Proofs.YtnkjembkhjellaaGreatDoor
open Go.AE
set_option maxRecDepth 100000

def opsOf : Code → List Oper | .region _ ops _ => ops.toList | _ => []
def ridOf : Code → Nat | .region id _ _ => id | _ => 0
def opN (c : Code) (i : Nat) : Oper := match (opsOf c)[i]? with | some o => o | none => default

noncomputable def cA2 : Code := sl cA
noncomputable def cA3 : Code := sl (bl (sl (sr (sr cA))))
noncomputable def cAT : Code := sr (bl (sl (sr (sr cA))))
noncomputable def cA6 : Code := sr (sr (sr cA))

theorem shapeA : cA = .seq cA2 (.seq (.cond (.tmp 14) .skip (.exit 0)) (.seq (.block 1 (.seq cA3 cAT)) cA6)) := by kernel_rfl
theorem shapeA2 : cA2 = .region (ridOf cA2) #[opN cA2 0] false := by kernel_rfl
theorem shapeA3 : cA3 = .region (ridOf cA3) #[opN cA3 0, opN cA3 1, opN cA3 2, opN cA3 3] false := by kernel_rfl
theorem op20 : (opN cA2 0).op = .binOp .lss 3 (.tmp 13) (.tmp 12) 3 ∧ (opN cA2 0).guard = none ∧ (opN cA2 0).dst = some 14 := ⟨by kernel_rfl, by kernel_rfl, by kernel_rfl⟩
theorem op30 : (opN cA3 0).op = .indexAddr 22 (.tmp 11) (.tmp 13) ∧ (opN cA3 0).guard = none ∧ (opN cA3 0).dst = some 15 := ⟨by kernel_rfl, by kernel_rfl, by kernel_rfl⟩
theorem op31 : (opN cA3 1).op = .load 24 (.tmp 15) ∧ (opN cA3 1).guard = none ∧ (opN cA3 1).dst = some 16 := ⟨by kernel_rfl, by kernel_rfl, by kernel_rfl⟩

theorem und22 : env.und 22 = some (.slice 24) := by kernel_rfl
theorem size24 : env.size 24 = some 3 := by kernel_rfl

theorem agg24 : (match env.und 24 with | some d => isAggD d | none => false) = true := by kernel_rfl

section
variable {w : World} {A : Addr} {len cap idx : Nat}

theorem at_exec (h : idx < len) : (Instr.indexAt 22 (.slice (some A) len cap) (.int .i64 idx)).run env.P w = .ok (.pointer (some (A.add (idx * 3)))) w := by
  have hund := run_und (w := w) (env_ok ⟨fun _ => 0, fun _ => .empty, fun _ => (none, 0, 0), fun _ => undef⟩) und22
  have hsz := run_size (w := w) (env_ok ⟨fun _ => 0, fun _ => .empty, fun _ => (none, 0, 0), fun _ => undef⟩) size24
  have hcond : 0 ≤ (idx : Int) ∧ (idx : Int) < (len : Int) := by omega
  simp only [Instr.indexAt, asIntOf, Sem.run_bind, Sem.run_pure, Result.andThen_ok, hund, Sem.run_ite]
  rw [if_pos hcond]
  simp [hsz]

/-- an element is read -/
theorem load_exec {B : Addr} {cs : List Value} (hl : cs.length = 3) (hc : ∀ j v, cs[j]? = some v → w.cell? (B.add j) = some v) : (Instr.loadAt 24 (.pointer (some B))).run env.P w = .ok (.agg cs.toArray) w := by
  have hsz := run_size (w := w) (env_ok ⟨fun _ => 0, fun _ => .empty, fun _ => (none, 0, 0), fun _ => undef⟩) size24
  obtain ⟨d, hd, hag⟩ : ∃ d, env.und 24 = some d ∧ isAggD d = true := by
    have h := agg24
    split at h
    · rename_i d hd; exact ⟨d, hd, h⟩
    · cases h
  have hrun := run_loadCells_list (P := env.P) w B cs hc
  rw [hl] at hrun
  simp only [Instr.loadAt, Instr.sureAddr, loadVar, Sem.run_bind, Sem.run_pure, Result.andThen_ok, run_isAgg (env_ok ⟨fun _ => 0, fun _ => .empty, fun _ => (none, 0, 0), fun _ => undef⟩) hd, hag, if_true, hsz, hrun]

end
end Go.Proofs.YtnkjembkhjellaaGreatDoor
