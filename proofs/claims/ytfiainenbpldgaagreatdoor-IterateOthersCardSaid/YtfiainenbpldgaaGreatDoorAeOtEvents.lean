/-
  IterateOthers: the realm's Events.
-/
import Derived.Test.YtfiainenbpldgaaGreatDoorAeOtKeysO
namespace Go.Proofs.YtfiainenbpldgaaGreatDoor
open Go.RowKit
set_option maxRecDepth 100000
set_option linter.unusedVariables false
set_option linter.unusedSimpArgs false

def evL : List Value := [.int .i64 7, .int .i64 0, .int .i64 0, .string ⟨#[]⟩, .string ⟨#[]⟩]

/-- behind Events -/
structure EvR (w : World) (e : Ending) (w' : World) : Prop where
  ret : ∃ g cap, e = .returned (.slice (some ⟨g, 0, none⟩) 1 cap)
  bel : Below w.heap.size w w'

set_option maxHeartbeats 2000000 in
theorem events_ret (L : Lc) (xs : List VL) (w : World) (h : St L xs w) : Calls Tryz.prog 14 #[.pointer (some ⟨L.wb, L.wo, none⟩)] w fun e w' => EvR w e w' := by
  obtain ⟨i0, hi, hz0, hz1, hz2⟩ := info_parts evInfo
  have HI := Lib.hid hi
  have HZ0 := Lib.hid hz0
  have HZ1 := Lib.hid hz1
  have HZ2 := Lib.hid hz2
  clear hi hz0 hz1 hz2
  have cw := h.fx.wev
  have hc : Hid (∀ j u, evL[j]? = some u → w.cell? ((⟨L.eb, 0, none⟩ : Addr).add j) = some u) := Lib.hid fun j u hj => by
    have hl : j < 5 := (List.getElem?_eq_some_iff.1 hj).1
    have e1 : (⟨L.eb, 0, none⟩ : Addr).add j = ⟨L.eb, j, none⟩ := by unfold Addr.add; split <;> simp_all
    rw [e1]
    rcases (show j = 0 ∨ j = 1 ∨ j = 2 ∨ j = 3 ∨ j = 4 by omega) with rfl | rfl | rfl | rfl | rfl <;> cases hj
    · exact h.fx.e0
    · exact h.fx.e1
    · exact h.fx.e2
    · exact h.fx.e3
    · exact h.fx.e4
  have hO1 : Hid (∀ u ∈ evL, u.oneCell' = true) := Lib.hid (by unfold evL; simp [Value.oneCell'])
  clear h
  go_enter Tryz.func14, Tryz.ntmps14
  go_wp2_with (at_builtin; refine wpList_append_lies _ rfl _ _ 36 rfl w.heap.size 58 i0 (.agg #[.int .i64 0, .int .i64 0, .int .i64 0, .string ⟨#[]⟩, .string ⟨#[]⟩]) 5 56 Tryz.underlying36 HI.out HZ0.out HZ1.out HZ2.out rfl (by decide) (.slice none 0 0) 0 [] rfl (World.ownsRow_nil _ _ _ _) ⟨L.eb, 0, none⟩ 1 L.ec evL rfl rfl hc.out hO1.out (by decide) (by unfold maxLen; omega) (by omega) (Nat.le_refl _) _ rfl ?_; intro bg bcap w4 hown hgrow hat hlt; have HB4 := Lib.hid ((Below.refl w.heap.size w).grown hgrow (Nat.le_refl _) (by intro k hk; simp [Value.ownBlock] at hk)); clear hown hgrow hat)
  go_ret
  exact ⟨⟨bg, bcap, rfl⟩, HB4.out⟩

end Go.Proofs.YtfiainenbpldgaaGreatDoor
