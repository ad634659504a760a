/-
  IterateOthers: the realm before there is a record: Log.
-/
import Derived.Test.YtfiainenbpldgaaGreatDoorAeOtClose
import Derived.Test.YtfiainenbpldgaaGreatDoorAeOtApp
import Derived.Deep.RegionLaw
namespace Go.Proofs.YtfiainenbpldgaaGreatDoor
open Go.RowKit
set_option maxRecDepth 100000
set_option linter.unusedVariables false
set_option linter.unusedSimpArgs false

/-- where the realm's blocks lie at first -/
structure Lp where
  wb : Nat
  hb : Nat
  yb : Nat
  yo : Nat
  yc : Nat
  rb : Nat
  ro : Nat
  rc : Nat
  pb : Addr
  wo : Nat
  ho : Nat

/-- the realm, with its events -/
structure Pre (q : Lp) (ev : Value) (w : World) : Prop where
  wh : w.cell? ⟨q.wb, q.wo + 11, none⟩ = some (.pointer (some ⟨q.hb, q.ho, none⟩))
  wev : w.cell? ⟨q.wb, q.wo + 17, none⟩ = some ev
  wf : ∀ j, w.frozen? ⟨q.wb, j, none⟩ = false
  h0 : w.cell? ⟨q.hb, q.ho, none⟩ = some (.slice (some ⟨q.yb, q.yo, none⟩) 20 q.yc)
  h1 : w.cell? ⟨q.hb, q.ho + 1, none⟩ = some (.slice none 0 0)
  h2 : w.cell? ⟨q.hb, q.ho + 2, none⟩ = some (.slice (some ⟨q.rb, q.ro, none⟩) 20 q.rc)
  h4 : w.cell? ⟨q.hb, q.ho + 4, none⟩ = some (.pointer (some q.pb))
  hf : ∀ j, w.frozen? ⟨q.hb, j, none⟩ = false
  ry : RowS w q.yb q.yo 20 q.yc 6
  rr : RowS w q.rb q.ro 20 q.rc 3
  n1 : q.wb ≠ q.hb
  n2 : q.wb ≠ q.yb
  n3 : q.wb ≠ q.rb
  n4 : q.hb ≠ q.yb
  n5 : q.hb ≠ q.rb
  n6 : q.yb ≠ q.rb

theorem RowS.lt {w : World} {g o n cap size : Nat} (h : RowS w g o n cap size) : g < w.heap.size := by
  obtain ⟨cur, e, h1, _⟩ := h.ex
  exact (Array.getElem?_eq_some_iff.1 h1).1
theorem RowS.keep {w w' : World} {g o n cap size : Nat} (h : RowS w g o n cap size) (he : w'.heap[g]? = w.heap[g]?) : RowS w' g o n cap size := by
  obtain ⟨cur, e, h1, h2⟩ := h.ex
  exact ⟨cur, e, he.trans h1, h2⟩
theorem Keep.frozen {y : Nat} {w w' : World} (h : Keep y w w') {b j : Nat} (hc : w.frozen? ⟨b, j, none⟩ = false) (hlt : b < w.heap.size) (hn : b ≠ y) : w'.frozen? ⟨b, j, none⟩ = false := by
  rw [World.frozen?_of_block (a := ⟨b, j, none⟩) (h.block b hlt hn)]
  exact hc

theorem Pre.below {q : Lp} {ev : Value} {w w' : World} (h : Pre q ev w) (hb : Below w.heap.size w w') : Pre q ev w' := by
  have k : ∀ b o v, w.cell? ⟨b, o, none⟩ = some v → w'.cell? ⟨b, o, none⟩ = some v := fun b o v hc => (hb.cell (p := ⟨b, o, none⟩) (lt_of_cell hc)).trans hc
  exact ⟨k _ _ _ h.wh, k _ _ _ h.wev, fun j => (hb.frozen (p := ⟨q.wb, j, none⟩) (lt_of_cell h.wh)).trans (h.wf j), k _ _ _ h.h0, k _ _ _ h.h1, k _ _ _ h.h2, k _ _ _ h.h4, fun j => (hb.frozen (p := ⟨q.hb, j, none⟩) (lt_of_cell h.h0)).trans (h.hf j), h.ry.keep (hb.block _ h.ry.lt), h.rr.keep (hb.block _ h.rr.lt), h.n1, h.n2, h.n3, h.n4, h.n5, h.n6⟩

theorem Pre.log {q : Lp} {ev : Value} {w : World} (h : Pre q ev w) (v : Value) : Pre q v (w.setCell ⟨q.wb, q.wo + 17, none⟩ v) := by
  have k := Keep.set w q.wb (q.wo + 17) v
  have hne : (⟨q.wb, q.wo + 17, none⟩ : Addr) ≠ ⟨q.wb, q.wo + 11, none⟩ := by intro e; simp at e
  exact ⟨by rw [World.cell?_setCell_other _ _ _ _ hne]; exact h.wh, World.cell?_setCell_same _ _ _ h.wev, fun j => by rw [World.frozen?_setCell]; exact h.wf j, k.cell h.h0 h.n1.symm, k.cell h.h1 h.n1.symm, k.cell h.h2 h.n1.symm, k.cell h.h4 h.n1.symm, fun j => by rw [World.frozen?_setCell]; exact h.hf j, h.ry.keep (k.block _ h.ry.lt h.n2.symm), h.rr.keep (k.block _ h.rr.lt h.n3.symm), h.n1, h.n2, h.n3, h.n4, h.n5, h.n6⟩

theorem evInfo : (Tryz.prog.info? 58).map (fun i => (i.zero, i.size, i.bytes)) = some (some (.agg #[.int .i64 0, .int .i64 0, .int .i64 0, .string ⟨#[]⟩, .string ⟨#[]⟩]), 5, 56) := by kernel_rfl

def evC : List Value := [.int .i64 7, .int .i64 0, .int .i64 0, .string ⟨#[]⟩, .string ⟨#[]⟩]

/-- behind the first event -/
structure LogR (q : Lp) (w : World) (e : Ending) (w' : World) : Prop where
  ex : e = .returned (.tuple #[]) ∧ ∃ eb ec, w.heap.size ≤ eb ∧ Pre q (.slice (some ⟨eb, 0, none⟩) 1 ec) w' ∧ ∀ j v, evC[j]? = some v → w'.cell? ⟨eb, j, none⟩ = some v
  keep : Keep q.wb w w'

set_option maxHeartbeats 2000000 in
theorem log_ret (q : Lp) (w : World) (h : Pre q (.slice none 0 0) w) : Calls Tryz.prog 19 #[.pointer (some ⟨q.wb, q.wo, none⟩), .agg #[.int .i64 7, .int .i64 0, .int .i64 0, .string ⟨#[]⟩, .string ⟨#[]⟩]] w fun e w' => LogR q w e w' := by
  obtain ⟨i0, hi, hz0, hz1, hz2⟩ := info_parts evInfo
  have HI := Lib.hid hi
  have HZ0 := Lib.hid hz0
  have HZ1 := Lib.hid hz1
  have HZ2 := Lib.hid hz2
  clear hi hz0 hz1 hz2
  have HB := Lib.hid (new_below w (.cells #[.int .i64 7, .int .i64 0, .int .i64 0, .string ⟨#[]⟩, .string ⟨#[]⟩] 58))
  have HP := Lib.hid (h.below HB.out)
  have cw := h.wev
  have cf := h.wf
  have hlw := lt_of_cell cw
  have HH := Lib.hid h
  clear h
  go_enter Tryz.func19, Tryz.ntmps19
  go_wp2_with fail
  have hO1 : Hid (∀ u ∈ evC, u.oneCell' = true) := Lib.hid (by unfold evC; simp [Value.oneCell'])
  have HSZ : Hid (∀ X Y, w.heap.size ≤ ((w.alloc X).alloc Y).heap.size) := Lib.hid fun X Y => by simp; omega
  have H2 : Hid (∀ X Y, Below w.heap.size w ((w.alloc X).alloc Y)) := Lib.hid fun X Y => below_al2 w X Y
  go_region_law ((refine step_append_lies _ (by rfl) _ _ _ (by rfl) w.heap.size 58 i0 (.agg #[.int .i64 0, .int .i64 0, .int .i64 0, .string ⟨#[]⟩, .string ⟨#[]⟩]) 5 56 Tryz.underlying36 HI.out HZ0.out HZ1.out HZ2.out rfl (by decide) (.slice none 0 0) 0 [] (by rfl) (World.ownsRow_nil _ _ _ _) ⟨w.heap.size + 1, 0, none⟩ 1 1 evC (by rfl) rfl (World.news_of_block (two_al w _ _).2) hO1.out (by omega) (by unfold maxLen; omega) (by omega) (HSZ.out _ _) _ rfl ?_; intro bg bcap w4 hown hgrow hat hlt; have HB4 := Lib.hid ((H2.out _ _).drew.grown hgrow (HSZ.out _ _) (by intro k hk; simp [Value.ownBlock] at hk)); have cw4 := (HB4.out.cell (p := ⟨q.wb, q.wo + 17, none⟩) hlw).trans cw; have cf4 := fun j => (HB4.out.frozen (p := ⟨q.wb, j, none⟩) hlw).trans (cf j); replace hown := Lib.hid hown; replace hat := Lib.hid hat; clear hgrow))
  all_goals
    have hP4 := HH.out.below HB4.out
    have hbg : w.heap.size ≤ bg := by
      rcases hat.out with h | h
      · cases h
      · rw [h]; exact HSZ.out _ _
    have hKe : Keep q.wb w (w4.setCell ⟨q.wb, q.wo + 17, none⟩ (.slice (some ⟨bg, 0, none⟩) 1 bcap)) := (Keep.of HB4.out).trans (Keep.set _ _ _ _)
    refine bodyPost_ret (results_none rfl _ _ _) rfl ⟨⟨rfl, bg, bcap, hbg, hP4.log _, fun j v hj => ?_⟩, hKe⟩
    refine (Keep.set w4 q.wb (q.wo + 17) _).cell ?_ (by omega)
    have := hown.out.cells (g := bg) rfl j v (by simpa using hj)
    have e1 : (⟨bg, 0, none⟩ : Addr).add j = ⟨bg, j, none⟩ := by unfold Addr.add; split <;> simp_all
    rw [e1] at this
    exact this

end Go.Proofs.YtfiainenbpldgaaGreatDoor
