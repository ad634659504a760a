/-
  Runs that read the program's own variables: what these hold is known, and none is written.
-/
import Derived.Test.YtmebfcdgbjkcfaaGreatDoorAeSum
import Derived.Test.YtmebfcdgbjkcfaaGreatDoorAeCls
namespace Go.AE

section
variable {Y : Sy} {E : Env} {w : World}

/-- the program's own variables lie at the heap's start -/
def rhoG (ng : Nat) : Rho := fun b => if b < ng then some ⟨b, 0, 0⟩ else none

/-- what the variables hold -/
def LaidW (Y : Sy) (E : Env) (gl : List (Nat × AObj)) (w : World) : Prop :=
  E.ng ≤ w.heap.size ∧ ∀ b o, (b, o) ∈ gl → b < E.ng ∧ ∃ ob, w.heap[b]? = some ob ∧ ORel Y E (rhoG E.ng) ⟨b, 0, 0⟩ o ob

/-- the heap at the start -/
noncomputable def heapG (gl : List (Nat × AObj)) (n : Nat) : H := ⟨putAll gl .nil, n, [], gl.map fun p => p.1⟩

theorem heapG_get {gl : List (Nat × AObj)} {n b : Nat} {o : AObj} (h : (heapG gl n).get b = some o) : (b, o) ∈ gl := by
  unfold heapG at h
  rw [H.get_bare] at h
  rcases get_putAll (b := b) gl with ⟨_, o', ho', h2⟩ | ⟨_, h2⟩
  · rw [h2] at h
    cases h
    exact ho'
  · rw [h2] at h
    cases h

theorem rel_laid {gl : List (Nat × AObj)} {n : Nat} (hl : LaidW Y E gl w) (hn : E.ng ≤ n) : Rel Y E (rhoG E.ng) (heapG gl n) w := by
  refine ⟨fun b o hb _ => ?_, fun b c o p L M _ _ _ _ hL hM e => ?_, fun b hb => ?_, fun b L hL => ?_⟩
  · obtain ⟨h1, ob, h2, h3⟩ := hl.2 b o (heapG_get hb)
    exact ⟨⟨b, 0, 0⟩, ob, by simp [rhoG, h1], h2, h3⟩
  · unfold rhoG at hL hM
    split at hL <;> split at hM <;> first | cases hL | skip
    · cases hM
      exact e
    · cases hM
  · have hb' : n ≤ b := hb
    have : ¬ b < E.ng := by omega
    simp [rhoG, this]
  · unfold rhoG at hL
    split at hL
    · rename_i h
      cases hL
      have := hl.1
      show b < w.heap.size
      omega
    · cases hL

theorem glob_laid : Glob E (rhoG E.ng) := fun g hg => ⟨0, by simp [rhoG, hg]⟩

/-- a call that is evaluated where the variables hold what is known -/
theorem laid_run (hE : EnvOk Y E) {kn : List Known} (hkn : KnownOk Y E kn) {ss : List Sum} (hss : SumsOk Y E ss) {gl : List (Nat × AObj)} {lf n m : Nat} {f : FuncId} {args : List AV} {r : AV} (hm : E.ng ≤ m)
    (hk : evSm E kn ss lf n (.fn f) args (heapG gl m) (fun v _ => sameV v r) = true) {cargs : List Value} (hargs : concs Y (rhoG E.ng) args = some cargs) (hl : LaidW Y E gl w) :
    Calls E.P f cargs.toArray w fun e w' => ∃ cv, e = .returned cv ∧ conc Y (fun _ => none) r = some cv ∧ RowKit.Below w.heap.size w w' := by
  obtain ⟨_, h2⟩ := evSm_ok hE hkn hss lf n (.fn f) args (heapG gl m) _ (rhoG E.ng) w cargs (rel_laid hl hm) glob_laid hargs hk
  refine callsIn_wide.1 (CallsIn.mono (h2 0) fun e w' h => ?_)
  cases e with
  | panicked c => exact h.elim
  | outgrown => exact h.elim
  | returned v =>
    obtain ⟨ρ', h', av, hgo, hv, ht⟩ := h
    dsimp only at ht
    obtain ⟨rfl, hfree⟩ := sameV_eq (Y := Y) ht
    refine ⟨v, rfl, by rw [hfree _ ρ']; exact hv, hgo.frm.os, hgo.frm.tape, hgo.frm.output, hgo.frm.size, fun k hk' => hgo.frm.block k hk' fun b o L hb hw => ?_⟩
    exfalso
    have h1 := wr_prot hw
    have h2 : memN (heapG gl m).prot b = true := (memN_iff _ _).2 (List.mem_map.2 ⟨(b, o), heapG_get hb, rfl⟩)
    rw [h2] at h1
    cases h1

/-- a row of known cells -/
theorem orel_row {ρ : Rho} {g : Nat} {vs : List AV} {cs : List Value} {arr : Array Value} {elem : TypeId} (hv : concs Y ρ vs = some cs) (hc : vs.all isCell = true) (ha : ∀ (i : Nat) v, cs[i]? = some v → arr[i]? = some v) (hn : cs.length ≤ arr.size) :
    ORel Y E ρ ⟨g, 0, 0⟩ (rowObj vs 0) (.cells arr elem) := by
  have e : rowObj vs 0 = .cells (ofListV vs) vs.length 0 := by unfold rowObj; rw [forceN_eq]
  rw [e]
  have hl := concs_length hv
  refine ⟨arr, elem, rfl, ?_, fun h => absurd rfl h, fun i v hi => ?_⟩
  · show 0 + vs.length ≤ arr.size
    omega
  · rw [get_ofListV] at hi
    obtain ⟨cv, h1, h2⟩ := concs_getElem hv i v hi
    have hlt : i < vs.length := by
      rcases Nat.lt_or_ge i vs.length with h | h
      · exact h
      · rw [List.getElem?_eq_none h] at hi; cases hi
    refine ⟨hlt, List.all_eq_true.1 hc v (List.mem_of_getElem? hi), cv, h1, ?_⟩
    show arr[0 + i]? = some cv
    rw [Nat.zero_add]
    exact ha i cv h2

/-- what is known of numbers is nothing to a summary -/
theorem SumOk.facts {q : Sum} (fs : List (SX × Int × Int)) (h : SumOk Y E q) : SumOk Y { E with facts := fs } q := by
  refine ⟨h.1, fun ρ w cargs hr hg ha => ?_⟩
  refine (h.2 ρ w cargs ⟨hr.obj, hr.inj, hr.fresh, hr.bound⟩ hg ha).mono fun e w' hw => ?_
  obtain ⟨cv, ρ', h1, hgo, h2⟩ := hw
  exact ⟨cv, ρ', h1, ⟨hgo.le, ⟨hgo.rel.obj, hgo.rel.inj, hgo.rel.fresh, hgo.rel.bound⟩, hgo.frm, hgo.keeps, hgo.made, hgo.same⟩, h2⟩

theorem SumOk.envO {q : Sum} (fs : List (SX × Int × Int)) (os : List Orc) (h : SumOk Y E q) : SumOk Y (envO E fs os) q := by
  refine ⟨h.1, fun ρ w cargs hr hg ha => ?_⟩
  refine (h.2 ρ w cargs ⟨hr.obj, hr.inj, hr.fresh, hr.bound⟩ hg ha).mono fun e w' hw => ?_
  obtain ⟨cv, ρ', h1, hgo, h2⟩ := hw
  exact ⟨cv, ρ', h1, ⟨hgo.le, ⟨hgo.rel.obj, hgo.rel.inj, hgo.rel.fresh, hgo.rel.bound⟩, hgo.frm, hgo.keeps, hgo.made, hgo.same⟩, h2⟩

theorem SumsOk.envO {ss : List Sum} (fs : List (SX × Int × Int)) (os : List Orc) (h : SumsOk Y E ss) : SumsOk Y (envO E fs os) ss := fun q hq => (h q hq).envO fs os

theorem Gives.envO {f : FuncId} {args : List AV} {v : AV} (fs : List (SX × Int × Int)) (os : List Orc) (h : Gives Y E f args v) : Gives Y (envO E fs os) f args v := fun w cargs hc => h w cargs hc

theorem SumsOk.facts {ss : List Sum} (fs : List (SX × Int × Int)) (h : SumsOk Y E ss) : SumsOk Y { E with facts := fs } ss := fun q hq => (h q hq).facts fs

end
end Go.AE
