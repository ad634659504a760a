/-
  What a law's row asks: arguments without memory of their own, the reading behind the call.
-/
import Derived.Test.YtmebfcdgbjkcfaaGreatDoorAeKnow
import Derived.WideKeyArgs
import Derived.OpenShut
namespace Go.AE

section
variable {H : Type} {enc : TypeId × Value → H} {P : Program} {W W' : World}

/-- all arguments read behind the call as they did before -/
theorem trodAll_stays (hl : laidOutB P = true) (hb : RowKit.Below W.heap.size W W') {sp : Nat → Bool} : ∀ {ts : List TypeId} {vs : List Value} {ds : List (DataW H)} {ps : List MemPlace}, (ts.all fun t => P.readableRec t && Nat.blt t P.types.size) = true →
    DataW.TrodAll enc P W 0 (fun _ => true) true ts vs ds ps → (∀ x ∈ ps, x.block < W.heap.size) → (∀ x ∈ ps, sp x.block = true) → DataW.TrodAll enc P W' 0 sp true ts vs ds ps
  | [], vs, ds, ps, _, h, _, _ => by
    obtain ⟨rfl, rfl, rfl⟩ := ChangeShapes.trodAll_nil h
    exact ChangeShapes.trodAll_mk0
  | t :: ts, vs, ds, ps, hr, h, hlt, hsp => by
    simp only [List.all_cons, Bool.and_eq_true] at hr
    obtain ⟨v, vs', d, ds', p, q, rfl, rfl, rfl, h1, h2⟩ := ChangeShapes.trodAll_cons h
    refine trodAll_cons_mk ?_ (trodAll_stays hl hb hr.2 h2 (fun x hx => hlt x (by simp [hx])) fun x hx => hsp x (by simp [hx]))
    exact WideElems.Trod_stays hl hr.1.1 ((blt_iff _ _).1 hr.1.2) h1 (fun x hx => hb.same (hlt x (by simp [hx]))) fun x hx => hsp x (by simp [hx])

end

section
variable {P : Program} {w : World} {r : Reach} {base : Nat}

theorem cell_int {t : TypeId} {k : IntKind} {v : Value} (hu : P.underlying t = some (.int k)) (h : Cell.okWide P w r base t v) : ∃ n, v = .int k n ∧ kLo k ≤ n ∧ n ≤ kHi k := by
  unfold Cell.okWide at h
  rw [hu] at h
  have h' : Cell.ok P w r base t v := by cases v <;> exact h
  unfold Cell.ok at h'
  rw [hu] at h'
  cases v <;> first | exact h'.elim | skip
  obtain ⟨rfl, h2⟩ := h'
  exact ⟨_, rfl, by rw [kLo_eq]; exact h2.1, by rw [kHi_eq]; exact h2.2⟩

theorem cell_bool {t : TypeId} {v : Value} (hu : P.underlying t = some .bool) (h : Cell.okWide P w r base t v) : ∃ b, v = .bool b := by
  unfold Cell.okWide at h
  rw [hu] at h
  have h' : Cell.ok P w r base t v := by cases v <;> exact h
  unfold Cell.ok at h'
  rw [hu] at h'
  cases v <;> first | exact h'.elim | skip
  exact ⟨_, rfl⟩

theorem cell_string {t : TypeId} {v : Value} (hu : P.underlying t = some .string) (h : Cell.okWide P w r base t v) : ∃ s : ByteArray, v = .string s ∧ s.size ≤ 9223372036854775807 := by
  unfold Cell.okWide at h
  rw [hu] at h
  have h' : Cell.ok P w r base t v := by cases v <;> exact h
  unfold Cell.ok at h'
  rw [hu] at h'
  cases v <;> first | exact h'.elim | skip
  rename_i s
  have h2 : (s.size : Int) ≤ IntKind.i64.max := h'
  have e : IntKind.i64.max = 9223372036854775807 := by decide
  rw [e] at h2
  exact ⟨s, rfl, by omega⟩

/-- the cells of a struct -/
theorem cells_struct {t : TypeId} {fs : Array Field} {ts : List TypeId} {v : Value} (hu : P.underlying t = some (.struct fs)) (hct : P.cellTypes P.depth t = some ts) (hn : P.cellsOf t = ts.length) (h : Value.okWide P w r base t v) :
    ∃ l : List Value, v = .agg l.toArray ∧ l.length = ts.length ∧ ∀ (i : Nat) u c, ts[i]? = some u → l[i]? = some c → Cell.okWide P w r base u c := by
  unfold Value.okWide at h
  rw [hu] at h
  obtain ⟨cs, rfl, hsz, ts', hct', _, hall⟩ := h
  rw [hct] at hct'
  cases hct'
  refine ⟨cs.toList, by simp, by simp [hsz, hn], fun i u c h1 h2 => ?_⟩
  have h3 : cs[i]? = some c := by rw [← Array.getElem?_toList]; exact h2
  obtain ⟨u', h4, h5⟩ := hall i c h3
  have hi : i < ts.length := by
    rcases Nat.lt_or_ge i ts.length with h | h
    · exact h
    · rw [List.getElem?_eq_none h] at h1; cases h1
  rw [Nat.mod_eq_of_lt hi, h1] at h4
  cases h4
  exact h5

end
end Go.AE
