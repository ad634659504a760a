/-
  IterateOthers: the realm's Hide; Push.
-/
import Derived.Test.YtfiainenbpldgaaGreatDoorAeOtMake
namespace Go.Proofs.YtfiainenbpldgaaGreatDoor
open Go.RowKit
set_option maxRecDepth 100000
set_option linter.unusedVariables false
set_option linter.unusedSimpArgs false

/-- behind Hide -/
structure HdR (q : Lp) (xs : List VL) (w : World) (e : Ending) (w' : World) : Prop where
  ret : e = .returned recA
  made : Mk q xs w.heap.size w w'

set_option maxHeartbeats 2000000 in
theorem hide_ret (q : Lp) (ev : Value) (xs : List VL) (hg : Good xs) (b o c : Nat) (w : World) (h : Pre q ev w) (hb : b < w.heap.size) (hc : Lie w b o xs) :
    Calls Tryz.prog 25 #[.pointer (some ⟨q.wb, q.wo, none⟩), cellA 7 0 0 0 (.slice (some ⟨b, o, none⟩) xs.length c)] w fun e w' => HdR q xs w e w' := by
  have HG := Lib.hid hg
  have HH := Lib.hid h
  have HL := Lib.hid hc
  have hhl := lt_of_cell h.h0
  have hyl := h.ry.lt
  have hwl := lt_of_cell h.wh
  clear h hc hg
  unfold cellA
  have n1 := Lib.hid (below_al2 w (.cells #[.int .i64 7, .int .i64 0, .int .i64 0, .int .i64 0, .slice none 0 0, .slice (some ⟨b, o, none⟩) xs.length c] 66) (.cells #[.int .i64 0, .int .i64 0, .string ⟨#[]⟩] 23))
  have n2 : ((w.alloc (.cells #[.int .i64 7, .int .i64 0, .int .i64 0, .int .i64 0, .slice none 0 0, .slice (some ⟨b, o, none⟩) xs.length c] 66)).alloc (.cells #[.int .i64 0, .int .i64 0, .string ⟨#[]⟩] 23)).heap.size = w.heap.size + 2 := by simp
  have n3 := Lib.hid (two_al w (.cells #[.int .i64 7, .int .i64 0, .int .i64 0, .int .i64 0, .slice none 0 0, .slice (some ⟨b, o, none⟩) xs.length c] 66) (.cells #[.int .i64 0, .int .i64 0, .string ⟨#[]⟩] 23))
  obtain ⟨W, hW⟩ : ∃ W, (w.alloc (.cells #[.int .i64 7, .int .i64 0, .int .i64 0, .int .i64 0, .slice none 0 0, .slice (some ⟨b, o, none⟩) xs.length c] 66)).alloc (.cells #[.int .i64 0, .int .i64 0, .string ⟨#[]⟩] 23) = W := ⟨_, rfl⟩
  rw [hW] at n1 n2 n3
  obtain ⟨p0, p1, p2, p3, p4, p5, pf⟩ := box6 n3.out.1
  have HPW := Lib.hid (HH.out.below n1.out)
  have cw := HPW.out.wh
  go_enter Tryz.func25, Tryz.ntmps25
  go_wp2_with fail
  clear hW
  go_region_with (first
    | (go_at_call 57; refine (make_ret q ev xs HG.out b o c _ (HPW.out.below (Below.refl _ _).drew) (by show b < W.heap.size; omega) (HL.out.mono n1.out.drew hb)).mono ?_; rintro e w2 ⟨rfl, hm⟩; have R2 := hm.keep.heap (show W.drew.heap[w.heap.size + 1]? = _ from n3.out.2) (by omega) (by omega); obtain ⟨s0, s1, s2, sf⟩ := box3 R2; have HM := Lib.hid (Mk.from hm n1.out.drew hhl); clear hm R2))
  all_goals
    have hWs : W.drew.heap.size = W.heap.size := rfl
    clear p0 p1 p2 p3 p4 p5 pf cw HPW n3
    go_wp2_with fail
    refine bodyPost_ret (v := recA) ?_ rfl ⟨rfl, ?_⟩
    · rw [results_cell_one rfl]
      go_simp
      rfl
    · refine Mk.weak (n := W.drew.heap.size) ?_ (by omega)
      iterate 3 refine Mk.set ?_ (by omega) (by omega) hhl hyl _ _
      exact HM.out

/-- the realm with its record, which is no root yet -/
structure Mid (q : Lp) (yb yo yc eb ec n : Nat) (xs : List VL) (w : World) : Prop where
  wh : w.cell? ⟨q.wb, q.wo + 11, none⟩ = some (.pointer (some ⟨q.hb, q.ho, none⟩))
  wev : w.cell? ⟨q.wb, q.wo + 17, none⟩ = some (.slice (some ⟨eb, 0, none⟩) 1 ec)
  ev : ∀ j v, evC[j]? = some v → w.cell? ⟨eb, j, none⟩ = some v
  h0 : w.cell? ⟨q.hb, q.ho, none⟩ = some (.slice (some ⟨yb, yo, none⟩) 21 yc)
  h1 : w.cell? ⟨q.hb, q.ho + 1, none⟩ = some (.slice none 0 0)
  h2 : w.cell? ⟨q.hb, q.ho + 2, none⟩ = some (.slice (some ⟨q.rb, q.ro, none⟩) 20 q.rc)
  h4 : w.cell? ⟨q.hb, q.ho + 4, none⟩ = some (.pointer (some q.pb))
  hf : ∀ j, w.frozen? ⟨q.hb, j, none⟩ = false
  rr : RowS w q.rb q.ro 20 q.rc 3
  rc : Rc (lcOf q yb yo yc) n xs w
  gd : Good xs
  n1 : q.wb ≠ q.hb
  n2 : q.wb ≠ yb
  n3 : q.wb ≠ q.rb
  n4 : q.hb ≠ yb
  n5 : q.hb ≠ q.rb
  n6 : yb ≠ q.rb
  m1 : eb ≠ q.hb
  m2 : eb ≠ yb
  m3 : eb ≠ q.rb
  k1 : q.hb < n
  k2 : q.rb < n

theorem Mid.below {q : Lp} {yb yo yc eb ec n : Nat} {xs : List VL} {w w' : World} (h : Mid q yb yo yc eb ec n xs w) (hb : Below w.heap.size w w') : Mid q yb yo yc eb ec n xs w' := by
  have k : ∀ b o v, w.cell? ⟨b, o, none⟩ = some v → w'.cell? ⟨b, o, none⟩ = some v := fun b o v hc => (hb.cell (p := ⟨b, o, none⟩) (lt_of_cell hc)).trans hc
  exact ⟨k _ _ _ h.wh, k _ _ _ h.wev, fun j v hj => k _ _ _ (h.ev j v hj), k _ _ _ h.h0, k _ _ _ h.h1, k _ _ _ h.h2, k _ _ _ h.h4, fun j => (hb.frozen (p := ⟨q.hb, j, none⟩) (lt_of_cell h.h0)).trans (h.hf j), h.rr.keep (hb.block _ h.rr.lt), h.rc.keep hb, h.gd, h.n1, h.n2, h.n3, h.n4, h.n5, h.n6, h.m1, h.m2, h.m3, h.k1, h.k2⟩

/-- the record becomes a root -/
structure PuR (q : Lp) (yb yo yc eb ec : Nat) (xs : List VL) (w : World) (e : Ending) (w' : World) : Prop where
  ret : e = .returned (.int .i64 20)
  ex : ∃ rb ro rc, St ⟨q.wb, q.hb, yb, yo, yc, rb, ro, rc, q.pb, eb, ec, q.wo, q.ho⟩ xs w'
  keep : Keep2 q.rb q.hb w w'

def recL : List Value := [.int .i64 9, .int .i64 41, .string ⟨#[]⟩]

theorem pu_facts {q : Lp} {yb yo yc eb ec n : Nat} {xs : List VL} {w W4 w4 : World} {g' o' cap' : Nat} (hM : Mid q yb yo yc eb ec n xs w) (hn : NewR W4 w4 q.rb g' o' 20 3 recL) (hK : Keep q.rb w w4) (hz : w.heap.size ≤ W4.heap.size) :
    PuR q yb yo yc eb ec xs w (.returned (.int .i64 20)) (w4.setCell ⟨q.hb, q.ho + 2, none⟩ (.slice (some ⟨g', o', none⟩) 21 cap')) := by
  obtain ⟨⟨cur, e, c1, c2, c3⟩, _, hat⟩ := hn
  obtain ⟨mb, mc, arr, ty, r0, r1, r2, r3, r4, r5, r6, r7, r8, r9, r10, r11⟩ := hM.rc.ex
  have hyl : yb < w.heap.size := (Array.getElem?_eq_some_iff.1 r1).1
  have hel := lt_of_cell (hM.ev 0 _ rfl)
  have hwl := lt_of_cell hM.wh
  have hhl := lt_of_cell hM.h0
  have hKh := Keep.set w4 q.hb (q.ho + 2) (.slice (some ⟨g', o', none⟩) 21 cap')
  have t1 := hM.n1; have t2 := hM.n2; have t3 := hM.n3; have t4 := hM.n4; have t5 := hM.n5; have t6 := hM.n6; have t7 := hM.m1; have t8 := hM.m2; have t9 := hM.m3
  have t10 := hM.k1; have t11 := hM.k2
  have hgy : g' ≠ yb := by rcases hat with h | h <;> omega
  have hgh : g' ≠ q.hb := by rcases hat with h | h <;> omega
  have c : ∀ b o v, w.cell? ⟨b, o, none⟩ = some v → b ≠ q.rb → b ≠ q.hb → (w4.setCell ⟨q.hb, q.ho + 2, none⟩ (.slice (some ⟨g', o', none⟩) 21 cap')).cell? ⟨b, o, none⟩ = some v := fun b o v hc h1 h2 => hKh.cell (hK.cell hc h1) h2
  have ch : ∀ o v, w.cell? ⟨q.hb, o, none⟩ = some v → o ≠ q.ho + 2 → (w4.setCell ⟨q.hb, q.ho + 2, none⟩ (.slice (some ⟨g', o', none⟩) 21 cap')).cell? ⟨q.hb, o, none⟩ = some v := fun o v hc h2 => by
    rw [World.cell?_setCell_other _ _ _ _ (by intro e; cases e; exact h2 rfl)]
    exact hK.cell hc t5
  have d := hKh.heap c1 hgh
  have k : ∀ j v, recL[j]? = some v → (w4.setCell ⟨q.hb, q.ho + 2, none⟩ (.slice (some ⟨g', o', none⟩) 21 cap')).cell? ⟨g', o' + 60 + j, none⟩ = some v := fun j v hj => (Lib.cell_of_heap d _).trans (c3 j v hj)
  refine ⟨rfl, ⟨g', o', cap', ⟨⟨c _ _ _ hM.wh t3 t1, c _ _ _ hM.wev t3 t1, c _ _ _ (hM.ev 0 _ rfl) t9 t7, c _ _ _ (hM.ev 1 _ rfl) t9 t7, c _ _ _ (hM.ev 2 _ rfl) t9 t7, c _ _ _ (hM.ev 3 _ rfl) t9 t7, c _ _ _ (hM.ev 4 _ rfl) t9 t7, ch q.ho _ hM.h0 (by omega), ch (q.ho + 1) _ hM.h1 (by omega), World.cell?_setCell_same _ _ _ (hK.cell hM.h2 t5), ch (q.ho + 4) _ hM.h4 (by omega), k 0 _ rfl, k 1 _ rfl, k 2 _ rfl, t2, t4, hgy, t8⟩, ⟨⟨mb, mc, arr, ty, Nat.zero_le _, hKh.heap (hK.heap r1 (show yb ≠ q.rb from t6)) (show yb ≠ q.hb from t4.symm), r2, r3, r4, r5, r6, r7, r8, r9, Nat.lt_of_lt_of_le r10 (Nat.le_trans hK.size hKh.size), (r11.other (hK.block mb r10 (by omega))).other (hKh.block mb (Nat.lt_of_lt_of_le r10 hK.size) (by omega))⟩⟩, hM.gd⟩⟩, (Keep2.ofK hK).setg⟩

theorem valInfo2 : (Tryz.prog.info? 23).map (fun i => (i.zero, i.size, i.bytes)) = some (some (.agg #[.int .i64 0, .int .i64 0, .string ⟨#[]⟩]), 3, 32) := valInfo

set_option maxHeartbeats 2000000 in
theorem push_ret (q : Lp) (yb yo yc eb ec n : Nat) (xs : List VL) (w : World) (h : Mid q yb yo yc eb ec n xs w) :
    Calls Tryz.prog 26 #[.pointer (some ⟨q.hb, q.ho, none⟩), recA] w fun e w' => PuR q yb yo yc eb ec xs w e w' := by
  obtain ⟨i0, hi, hz0, hz1, hz2⟩ := info_parts valInfo
  have HI := Lib.hid hi
  have HZ0 := Lib.hid hz0
  have HZ1 := Lib.hid hz1
  have HZ2 := Lib.hid hz2
  clear hi hz0 hz1 hz2
  have HH := Lib.hid h
  have hhl := lt_of_cell h.h0
  clear h
  unfold recA
  obtain ⟨n1, n2, n3⟩ := al1k w (.cells #[.int .i64 9, .int .i64 41, .string ⟨#[]⟩] 23)
  obtain ⟨W, hW⟩ : ∃ W, w.alloc (.cells #[.int .i64 9, .int .i64 41, .string ⟨#[]⟩] 23) = W := ⟨_, rfl⟩
  rw [hW] at n1 n2 n3
  obtain ⟨q0, q1, q2, qf⟩ := box3 n3.out
  have HMW := Lib.hid (HH.out.below n1.out)
  go_enter Tryz.func26, Tryz.ntmps26
  go_wp2_with fail
  clear hW
  go_at_call 58
  refine (nobody_h q.hb q.ho _ W HMW.out.h4).mono ?_
  rintro e w0 ⟨rfl, rfl⟩
  go_wp2_with fail
  have n2a := Nat.le_of_eq n2
  have n2b := Nat.le_of_eq n2.symm
  clear n2
  have h2 := HMW.out.h2
  have hf := HMW.out.hf
  have hlh := lt_of_cell h2
  have hq1 := HH.out.n5
  have hO1 : Hid (∀ u ∈ recL, u.oneCell' = true) := Lib.hid (by unfold recL; simp [Value.oneCell'])
  have HLN : Hid (recL.length = 3) := Lib.hid rfl
  have HPB : Hid (∀ R, RowS (w0.alloc R).drew q.rb q.ro 20 q.rc 3) := Lib.hid fun R => (HMW.out.below ((new_below w0 R).drew)).rr
  have HBB : Hid (∀ R, Below w0.heap.size w0 (w0.alloc R).drew) := Lib.hid fun R => (new_below w0 R).drew
  go_region_law ((refine step_append_sh (by rfl) _ _ 59 (by rfl) 23 i0 (.agg #[.int .i64 0, .int .i64 0, .string ⟨#[]⟩]) Tryz.underlying59 HI.out HZ0.out 3 HZ1.out rfl q.rb q.ro 20 q.rc (by rfl) (HPB.out _) ⟨w0.heap.size, 0, none⟩ 1 recL (by rfl) HLN.out (World.news_of_block (heap_alloc_new w0 _)) hO1.out (by omega) (by rw [HZ2.out]; omega) ?_; intro g' o' cap' w4 hn; have HK4 := Lib.hid (keep_grown (HBB.out _) hn.grow); have h04 := HK4.out.cell h2 hq1; have hf4 := fun j => HK4.out.frozen (hf j) hlh hq1; have hlt4 := HK4.out.size; replace hn := Lib.hid hn))
  all_goals
    have HF := Lib.hid (pu_facts (cap' := cap') HH.out hn.out ((Keep.of n1.out).trans HK4.out) (Nat.le_trans n1.out.size (by exact (HBB.out _).size)))
    clear hn HK4 HMW q0 q1 q2 qf HPB HBB n1 n3
    go_wp2_with fail
    go_ret
    exact HF.out

set_option maxHeartbeats 2000000 in
theorem rpush_ret (q : Lp) (yb yo yc eb ec n : Nat) (xs : List VL) (w : World) (h : Mid q yb yo yc eb ec n xs w) :
    Calls Tryz.prog 8 #[.pointer (some ⟨q.wb, q.wo, none⟩), recA] w fun e w' => PuR q yb yo yc eb ec xs w e w' := by
  have HH := Lib.hid h
  unfold recA
  obtain ⟨n1, n2, n3⟩ := al1k w (.cells #[.int .i64 9, .int .i64 41, .string ⟨#[]⟩] 23)
  obtain ⟨W, hW⟩ : ∃ W, w.alloc (.cells #[.int .i64 9, .int .i64 41, .string ⟨#[]⟩] 23) = W := ⟨_, rfl⟩
  rw [hW] at n1 n2 n3
  obtain ⟨q0, q1, q2, qf⟩ := box3 n3.out
  have HMW := Lib.hid (HH.out.below n1.out)
  have cw := HMW.out.wh
  clear h
  go_enter Tryz.func8, Tryz.ntmps8
  go_wp2_with fail
  clear hW
  go_region_with (first
    | (go_at_call 26; refine (push_ret q yb yo yc eb ec n xs _ (HMW.out.below (Below.refl _ _).drew)).mono ?_; rintro e w2 ⟨rfl, hex, hk⟩; replace hex := Lib.hid hex; have HK := Lib.hid ((Keep2.of (y := q.rb) (g := q.hb) n1.out.drew).trans hk); clear hk))
  all_goals
    go_wp2_with fail
    go_ret
    exact ⟨rfl, hex.out, HK.out⟩

end Go.Proofs.YtfiainenbpldgaaGreatDoor
