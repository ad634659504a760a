/-
  Two calls whose outcome is known: strings.Index (the kit's contract), and the law's examples.
-/
import Derived.Shelf.Strings.Search3
import Derived.Test.YthfaglmbicgfjaaGreatDoorAeTxLays
namespace Go.Proofs.YthfaglmbicgfjaaGreatDoor
open Go.AE Go.Shelf
set_option maxRecDepth 100000

theorem idx_calls (s sub : ByteArray) (m : Int) (w : World) (hs : s.size < 4294967281) (hm : w.cell? ⟨1, 0, none⟩ = some (.int .i64 m)) :
    Calls Tryz.prog 81 #[.string s, .string sub] w fun e w' => e = .returned (.int .i64 (Lib.index s.data.toList sub.data.toList)) ∧ w' = w := Any.strings_Index idxLays s sub m w hs hm

noncomputable def aS : AV := .sstr 0 0 200
noncomputable def aP : AV := .sstr 3 0 200
noncomputable def aR : AV := .sint .i64 (.var 2) 0 200

/-- where the part is found -/
noncomputable def qIdx : Sum := ⟨81, [aS, aP], 100000, [gMax], aR, [], 100000, [1]⟩

theorem has81 (fs : List (SX × Int × Int)) (os : List Orc) : hasBody (envG fs os) 81 = true := by kernel_rfl

theorem qIdx_ok {Y : Sy} {fs : List (SX × Int × Int)} {os : List Orc} {s sub : ByteArray} {r : Nat} (hs : IsS Y aS s) (hsz : s.size ≤ 200) (hp : IsS Y aP sub) (hr : Lib.index s.data.toList sub.data.toList = r) (hr2 : r ≤ 200) (hY : Y.ints 2 = r) : SumOk Y (envG fs os) qIdx := by
  refine ⟨has81 fs os, fun ρ w cargs hrel hg hargs => ?_⟩
  obtain ⟨c, l, e1, e2, rfl⟩ := concs_cons.1 hargs
  obtain ⟨c', l', e3, e4, rfl⟩ := concs_cons.1 e2
  rw [concs_nil] at e4
  subst e4
  rw [hs] at e1
  cases e1
  rw [hp] at e3
  cases e3
  have hb : qIdx.before.get 1 = some (.held (ofListV [.sint .i64 (.var 9) lo64 hi64]) 1 false) := by
    unfold Sum.before
    rw [H.get_bare]
    rfl
  obtain ⟨L, ob, hL, hblk, arr, elem, fz, rfl, hsz', _, hcells⟩ := hrel.obj 1 _ hb rfl
  obtain ⟨cap, hgl⟩ := hg 1 (by show 1 < 2; omega)
  rw [hgl] at hL
  cases hL
  obtain ⟨_, _, cv, c1, c2⟩ := hcells 0 (.sint .i64 (.var 9) lo64 hi64) (by rw [get_ofListV]; rfl)
  have hm : ∃ m, cv = .int .i64 m := by
    unfold conc at c1
    split at c1
    · cases c1; exact ⟨_, rfl⟩
    · cases c1
  obtain ⟨m, rfl⟩ := hm
  have hcell : w.cell? ⟨1, 0, none⟩ = some (.int .i64 m) := by
    unfold World.cell?
    rw [hblk]
    simpa using c2
  refine (idx_calls s sub m w (by omega) hcell).mono fun e w' he => ?_
  obtain ⟨rfl, rfl⟩ := he
  refine ⟨_, ρ, rfl, ?_, ?_⟩
  · exact Goes.of_below hrel (RowKit.Below.refl _ w')
  · rw [hr]
    exact isI_sym (e := .var 2) hY (by omega) (by omega) ρ

/-- the examples -/
noncomputable def qAwake : Sum := ⟨4, [], 2, [gHole], .bool true, [], 2310, [0]⟩
theorem qAwake_run : evSm env [] [] 300 100 (.fn qAwake.f) qAwake.args qAwake.before qAwake.ask = true := by kernel_rfl
theorem qAwake_ok (Y : Sy) (fs : List (SX × Int × Int)) (os : List Orc) : SumOk Y (envG fs os) qAwake :=
  SumOk.envO fs os (sum_of_run (E := env) (env_ok Y) KnownOk.nil SumsOk.nil (by kernel_rfl) qAwake_run)

end Go.Proofs.YthfaglmbicgfjaaGreatDoor
