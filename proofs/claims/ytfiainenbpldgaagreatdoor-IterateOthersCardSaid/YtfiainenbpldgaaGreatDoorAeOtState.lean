/-
  IterateOthers: what is known of the realm's blocks while a record is read.
-/
import Derived.Test.YtfiainenbpldgaaGreatDoorAeOtRight
namespace Go.Proofs.YtfiainenbpldgaaGreatDoor
open Go.RowKit
set_option maxRecDepth 100000
set_option linter.unusedVariables false
set_option linter.unusedSimpArgs false

/-- where the blocks lie: the realm's, the heap's, the young cells' row, the roots' row, the set's, the events' row -/
structure Lc where
  wb : Nat
  hb : Nat
  yb : Nat
  yo : Nat
  yc : Nat
  rb : Nat
  ro : Nat
  rc : Nat
  pb : Addr
  eb : Nat
  ec : Nat
  wo : Nat
  ho : Nat

/-- what doesn't turn -/
structure Fix (L : Lc) (w : World) : Prop where
  wh : w.cell? ⟨L.wb, L.wo + 11, none⟩ = some (.pointer (some ⟨L.hb, L.ho, none⟩))
  wev : w.cell? ⟨L.wb, L.wo + 17, none⟩ = some (.slice (some ⟨L.eb, 0, none⟩) 1 L.ec)
  e0 : w.cell? ⟨L.eb, 0, none⟩ = some (.int .i64 7)
  e1 : w.cell? ⟨L.eb, 1, none⟩ = some (.int .i64 0)
  e2 : w.cell? ⟨L.eb, 2, none⟩ = some (.int .i64 0)
  e3 : w.cell? ⟨L.eb, 3, none⟩ = some (.string ⟨#[]⟩)
  e4 : w.cell? ⟨L.eb, 4, none⟩ = some (.string ⟨#[]⟩)
  h0 : w.cell? ⟨L.hb, L.ho, none⟩ = some (.slice (some ⟨L.yb, L.yo, none⟩) 21 L.yc)
  h1 : w.cell? ⟨L.hb, L.ho + 1, none⟩ = some (.slice none 0 0)
  h2 : w.cell? ⟨L.hb, L.ho + 2, none⟩ = some (.slice (some ⟨L.rb, L.ro, none⟩) 21 L.rc)
  h4 : w.cell? ⟨L.hb, L.ho + 4, none⟩ = some (.pointer (some L.pb))
  r0 : w.cell? ⟨L.rb, L.ro + 60, none⟩ = some (.int .i64 9)
  r1 : w.cell? ⟨L.rb, L.ro + 60 + 1, none⟩ = some (.int .i64 41)
  r2 : w.cell? ⟨L.rb, L.ro + 60 + 2, none⟩ = some (.string ⟨#[]⟩)
  nw : L.wb ≠ L.yb
  nh : L.hb ≠ L.yb
  nr : L.rb ≠ L.yb
  ne : L.eb ≠ L.yb

/-- all but one block is as it was -/
structure Keep (y : Nat) (w w' : World) : Prop where
  os : w'.os = w.os
  tape : w'.tape = w.tape
  output : w'.output = w.output
  size : w.heap.size ≤ w'.heap.size
  block : ∀ k, k < w.heap.size → k ≠ y → w'.heap[k]? = w.heap[k]?

theorem Keep.of {y : Nat} {w w' : World} (h : Below w.heap.size w w') : Keep y w w' := ⟨h.os, h.tape, h.output, h.size, fun k hk _ => h.block k hk⟩
theorem Keep.trans {y : Nat} {a b c : World} (h : Keep y a b) (k : Keep y b c) : Keep y a c :=
  ⟨k.os.trans h.os, k.tape.trans h.tape, k.output.trans h.output, Nat.le_trans h.size k.size, fun x hx hn => (k.block x (Nat.lt_of_lt_of_le hx h.size) hn).trans (h.block x hx hn)⟩
theorem Keep.cell {y : Nat} {w w' : World} (h : Keep y w w') {b o : Nat} {v : Value} (hc : w.cell? ⟨b, o, none⟩ = some v) (hn : b ≠ y) : w'.cell? ⟨b, o, none⟩ = some v := by
  rw [World.cell?_of_block (a := ⟨b, o, none⟩) (h.block b (lt_of_cell hc) hn)]
  exact hc
theorem Keep.heap {y : Nat} {w w' : World} (h : Keep y w w') {b : Nat} {o : Obj} (hc : w.heap[b]? = some o) (hn : b ≠ y) : w'.heap[b]? = some o :=
  (h.block b (Array.getElem?_eq_some_iff.1 hc).1 hn).trans hc
theorem Keep.set (w : World) (y i : Nat) (v : Value) : Keep y w (w.setCell ⟨y, i, none⟩ v) := ⟨rfl, rfl, rfl, by rw [set_size]; exact Nat.le_refl _, fun _ _ hn => set_other v hn⟩
theorem Keep.below {y n : Nat} {w w' : World} (h : Keep y w w') (hy : n ≤ y) (hn : n ≤ w.heap.size) : Below n w w' := ⟨h.os, h.tape, h.output, h.size, fun k hk => h.block k (by omega) (by omega)⟩

theorem Keep.setn {y r i : Nat} {a w : World} {v : Value} (h : Keep y a w) (hr : a.heap.size ≤ r) : Keep y a (w.setCell ⟨r, i, none⟩ v) :=
  ⟨h.os, h.tape, h.output, by rw [set_size]; exact h.size, fun k hk hn => by rw [set_other v (by omega)]; exact h.block k hk hn⟩

theorem Fix.keep {L : Lc} {w w' : World} (h : Fix L w) (hk : Keep L.yb w w') : Fix L w' :=
  ⟨hk.cell h.wh h.nw, hk.cell h.wev h.nw, hk.cell h.e0 h.ne, hk.cell h.e1 h.ne, hk.cell h.e2 h.ne, hk.cell h.e3 h.ne, hk.cell h.e4 h.ne, hk.cell h.h0 h.nh, hk.cell h.h1 h.nh, hk.cell h.h2 h.nh, hk.cell h.h4 h.nh, hk.cell h.r0 h.nr, hk.cell h.r1 h.nr, hk.cell h.r2 h.nr, h.nw, h.nh, h.nr, h.ne⟩

/-- the record; its row lies at n or beyond -/
structure Rc (L : Lc) (n : Nat) (xs : List VL) (w : World) : Prop where
  ex : ∃ mb mc arr ty, n ≤ mb ∧ w.heap[L.yb]? = some (.cells arr ty (0, 0)) ∧ L.yo + 126 ≤ arr.size ∧ arr[L.yo + 120]? = some (.int .i64 7) ∧ arr[L.yo + 120 + 1]? = some (.int .i64 0) ∧ arr[L.yo + 120 + 2]? = some (.int .i64 0) ∧
    arr[L.yo + 120 + 3]? = some (.int .i64 0) ∧ arr[L.yo + 120 + 4]? = some (.slice none 0 0) ∧ arr[L.yo + 120 + 5]? = some (.slice (some ⟨mb, 0, none⟩) xs.length mc) ∧ mb ≠ L.yb ∧ mb < w.heap.size ∧ Lie w mb 0 xs

theorem Rc.keep {L : Lc} {n : Nat} {xs : List VL} {w w' : World} (h : Rc L n xs w) (hb : Below w.heap.size w w') : Rc L n xs w' := by
  obtain ⟨mb, mc, arr, ty, h0, h1, h2, h3, h4, h5, h6, h7, h8, h9, h10, h11⟩ := h.ex
  exact ⟨mb, mc, arr, ty, h0, keep_below hb h1, h2, h3, h4, h5, h6, h7, h8, h9, Nat.lt_of_lt_of_le h10 hb.size, h11.mono hb h10⟩

/-- values that a record may hold -/
structure Good (xs : List VL) : Prop where
  ok : ∀ x ∈ xs, OkV x
  len : 4 ≤ xs.length ∧ xs.length ≤ 1000
  two : ∃ v : Int, 0 ≤ v ∧ v ≤ 1 ∧ xs[2]? = some ⟨3, v, ⟨#[]⟩⟩
  three : ∃ v : Int, 0 ≤ v ∧ v ≤ 9007199254740992 ∧ xs[3]? = some ⟨3, v, ⟨#[]⟩⟩

structure StN (L : Lc) (n : Nat) (xs : List VL) (w : World) : Prop where
  fx : Fix L w
  rc : Rc L n xs w
  gd : Good xs

abbrev St (L : Lc) (xs : List VL) (w : World) : Prop := StN L 0 xs w

theorem StN.below {L : Lc} {n : Nat} {xs : List VL} {w w' : World} (h : StN L n xs w) (hb : Below w.heap.size w w') : StN L n xs w' := ⟨h.fx.keep (Keep.of hb), h.rc.keep hb, h.gd⟩
theorem StN.weak {L : Lc} {n m : Nat} {xs : List VL} {w : World} (h : StN L n xs w) (hm : m ≤ n) : StN L m xs w := by
  obtain ⟨mb, mc, arr, ty, h0, h1⟩ := h.rc.ex
  exact ⟨h.fx, ⟨⟨mb, mc, arr, ty, Nat.le_trans hm h0, h1⟩⟩, h.gd⟩

/-- a block that the realm doesn't reach -/
structure Off (L : Lc) (r : Nat) : Prop where
  ow : L.wb ≠ r
  oh : L.hb ≠ r
  ox : L.rb ≠ r
  oe : L.eb ≠ r
  oy : L.yb ≠ r

theorem StN.off {L : Lc} {n : Nat} {xs : List VL} {w : World} (h : StN L n xs w) {r : Nat} (hr : w.heap.size ≤ r) : Off L r := by
  obtain ⟨mb, mc, arr, ty, h0, h1, _⟩ := h.rc.ex
  have e1 := lt_of_cell h.fx.wh
  have e2 := lt_of_cell h.fx.h0
  have e3 := lt_of_cell h.fx.r0
  have e4 := lt_of_cell h.fx.e0
  have e5 := (Array.getElem?_eq_some_iff.1 h1).1
  exact ⟨by omega, by omega, by omega, by omega, by omega⟩

theorem StN.set {L : Lc} {n : Nat} {xs : List VL} {w : World} (h : StN L n xs w) {r : Nat} (hr : r < n) (ho : Off L r) (i : Nat) (v : Value) : StN L n xs (w.setCell ⟨r, i, none⟩ v) := by
  have hk := Keep.set w r i v
  have hf := h.fx
  refine ⟨⟨hk.cell hf.wh ho.ow, hk.cell hf.wev ho.ow, hk.cell hf.e0 ho.oe, hk.cell hf.e1 ho.oe, hk.cell hf.e2 ho.oe, hk.cell hf.e3 ho.oe, hk.cell hf.e4 ho.oe, hk.cell hf.h0 ho.oh, hk.cell hf.h1 ho.oh, hk.cell hf.h2 ho.oh, hk.cell hf.h4 ho.oh, hk.cell hf.r0 ho.ox, hk.cell hf.r1 ho.ox, hk.cell hf.r2 ho.ox, hf.nw, hf.nh, hf.nr, hf.ne⟩, ?_, h.gd⟩
  obtain ⟨mb, mc, arr, ty, h0, h1, h2, h3, h4, h5, h6, h7, h8, h9, h10, h11⟩ := h.rc.ex
  exact ⟨mb, mc, arr, ty, h0, hk.heap h1 ho.oy, h2, h3, h4, h5, h6, h7, h8, h9, Nat.lt_of_lt_of_le h10 hk.size, h11.other (hk.block mb h10 (by omega))⟩

theorem right_ret (b o c : Nat) (xs : List VL) (hg : Good xs) (w : World) (hb : b < w.heap.size) (hc : Lie w b o xs) :
    Calls Tryz.prog 96 #[cellA 7 0 0 0 (.slice (some ⟨b, o, none⟩) xs.length c)] w fun e w' => e = .returned (.bool true) ∧ Below w.heap.size w w' := by
  obtain ⟨v2, h20, h21, h2⟩ := hg.two
  obtain ⟨v3, h30, h31, h3⟩ := hg.three
  obtain ⟨ys, rfl⟩ : ∃ ys : List OkL, ys.map (·.1) = xs := ⟨xs.attachWith OkV hg.ok, by simp⟩
  obtain ⟨l1, l2⟩ := hg.len
  rw [List.length_map] at l1 l2 ⊢
  exact right_ok b o c ys l1 (by omega) v2 v3 h20 h21 h30 h31 h2 h3 w hb hc

/-- the heap's cells -/
theorem Fix.heap4 {L : Lc} {w : World} (h : Fix L w) : w.cell? ⟨L.hb, L.ho, none⟩ = some (.slice (some ⟨L.yb, L.yo, none⟩) 21 L.yc) ∧ w.cell? ⟨L.hb, L.ho + 1, none⟩ = some (.slice none 0 0) ∧ w.cell? ⟨L.hb, L.ho + 2, none⟩ = some (.slice (some ⟨L.rb, L.ro, none⟩) 21 L.rc) ∧ w.cell? ⟨L.hb, L.ho + 4, none⟩ = some (.pointer (some L.pb)) :=
  ⟨h.h0, h.h1, h.h2, h.h4⟩

set_option maxHeartbeats 1000000 in
theorem nobody_ret (L : Lc) (w : World) (h : Fix L w) : Calls Tryz.prog 58 #[.pointer (some ⟨L.hb, L.ho, none⟩)] w fun e w' => e = .returned (.bool false) ∧ w' = w := by
  obtain ⟨c0, c1, c2, c4⟩ := h.heap4
  go_enter Tryz.func58, Tryz.ntmps58
  go_wp2
  go_ret
  exact ⟨rfl, rfl⟩

set_option maxHeartbeats 1000000 in
theorem place_ret (L : Lc) (w : World) (h : Fix L w) : Calls Tryz.prog 150 #[.pointer (some ⟨L.hb, L.ho, none⟩), .int .i64 41] w fun e w' => e = .returned (.pointer (some ⟨L.yb, L.yo + 120, none⟩)) ∧ w' = w := by
  obtain ⟨c0, c1, c2, c4⟩ := h.heap4
  go_enter Tryz.func150, Tryz.ntmps150
  go_wp2
  go_ret
  exact ⟨rfl, rfl⟩

set_option maxHeartbeats 1000000 in
theorem reachPlace_ret (a : Option Addr) (c : Nat) (w : World) : Calls Tryz.prog 205 #[.agg #[.slice a 21 c, .slice none 0 0], .int .i64 41] w fun e w' => e = .returned (.tuple #[.slice a 21 c, .int .i64 20, .bool true]) ∧ Below w.heap.size w w' := by
  have hb0 := Lib.hid (new_below w (.cells #[.slice a 21 c, .slice none 0 0] 108))
  go_enter Tryz.func205, Tryz.ntmps205
  go_wp2
  go_ret3
  exact ⟨rfl, hb0.out⟩

set_option maxHeartbeats 1000000 in
theorem reachHas_ret (a : Option Addr) (c : Nat) (w : World) : Calls Tryz.prog 189 #[.agg #[.slice a 21 c, .slice none 0 0], .int .i64 41] w fun e w' => e = .returned (.bool true) ∧ Below w.heap.size w w' := by
  have hb0 := Lib.hid (new_below w (.cells #[.slice a 21 c, .slice none 0 0] 108))
  go_enter Tryz.func189, Tryz.ntmps189
  go_wp2_with (go_at_call 205; refine (reachPlace_ret a c _).mono ?_; rintro e w1 ⟨rfl, hb1⟩)
  go_ret
  exact ⟨rfl, hb0.out.trans (hb1.mono hb0.out.size)⟩

set_option maxHeartbeats 1000000 in
theorem has_ret (L : Lc) (w : World) (h : Fix L w) : Calls Tryz.prog 149 #[.pointer (some ⟨L.hb, L.ho, none⟩), .int .i64 41] w fun e w' => e = .returned (.bool true) ∧ Below w.heap.size w w' := by
  have hn := nobody_ret L w h
  obtain ⟨c0, c1, c2, c4⟩ := h.heap4
  go_enter Tryz.func149, Tryz.ntmps149
  go_wp2_with (first
    | (go_at_call 58; refine hn.mono ?_; rintro e w1 ⟨rfl, rfl⟩)
    | (go_at_call 189; refine (reachHas_ret _ _ _).mono ?_; rintro e w3 ⟨rfl, hb3⟩)
    | fail)
  go_ret
  exact ⟨rfl, hb3⟩

end Go.Proofs.YtfiainenbpldgaaGreatDoor
