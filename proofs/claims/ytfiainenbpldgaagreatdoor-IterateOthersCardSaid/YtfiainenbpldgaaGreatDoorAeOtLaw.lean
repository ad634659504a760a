/-
  IterateOthers: the statement's own code.
-/
import Derived.Test.YtfiainenbpldgaaGreatDoorAeOtRound
import Derived.Test.YtfiainenbpldgaaGreatDoorAeOtKeysW
namespace Go.Proofs.YtfiainenbpldgaaGreatDoor
open Go.AE Go.RowKit
set_option maxRecDepth 100000
set_option linter.unusedVariables false
set_option linter.unusedSimpArgs false

theorem lives_ret (w : World) : Calls Tryz.prog 6 #[] w fun e w' => e = .returned (.bool true) ∧ Below w.heap.size w w' :=
  (lives_gives ⟨fun _ => 0, fun _ => .empty, fun _ => (none, 0, 0), fun _ => undef⟩ w [] rfl).mono fun e w' he => by
    obtain ⟨cv, rfl, hc, hb⟩ := he
    cases hc
    exact ⟨rfl, hb⟩

/-- behind a call of the realm: all that was there ahead of it is as it was -/
theorem keepQ_below {q : Lp} {n : Nat} {w w' : World} (h : KeepQ q w w') (h1 : n ≤ q.wb) (h2 : n ≤ q.hb) (h3 : n ≤ q.yb) (h4 : n ≤ q.rb) (hn : n ≤ w.heap.size) : Below n w w' :=
  ⟨h.os, h.tape, h.output, h.size, fun k hk => h.block k (by omega) (by omega) (by omega) (by omega) (by omega)⟩
theorem keep2_below {y g n : Nat} {w w' : World} (h : Keep2 y g w w') (h1 : n ≤ y) (h2 : n ≤ g) (hn : n ≤ w.heap.size) : Below n w w' :=
  ⟨h.os, h.tape, h.output, h.size, fun k hk => h.block k (by omega) (by omega) (by omega)⟩

/-- how many keys a value has -/
def keysN (v : VL) : Nat := if v.k = 5 then v.s.size else 0

theorem keys_ret (q : Lp) (v : VL) (hv : OkV v) (hs : v.s.size ≤ 300) (w : World) (h : Pre q (.slice none 0 0) w) (hG : Tab w) (h4 : 0 < w.heap.size) (hw0 : 0 < q.wb) :
    Calls Tryz.prog 7 #[.pointer (some ⟨q.wb, q.wo, none⟩), aV v] w fun e w' => KyR q (xsOf v (keysN v)) w e w' := by
  unfold keysN
  by_cases h5 : v.k = 5
  · rw [if_pos h5]
    obtain ⟨k, n, s⟩ := v
    dsimp only at h5
    subst h5
    exact keys_text q n s hs hv w h hG h4 hw0
  · rw [if_neg h5]
    exact keys_other q v hv h5 w h hG h4 hw0

/-- the realm between two rounds, and the value's box at b -/
structure LawR (w0 : World) (b : Nat) (v : VL) (k : Nat) (L : Lc) (m : Nat) (W : World) : Prop where
  st : St L (stM v k m) W
  box : W.heap[b]? = some (.cells #[.int .i64 v.k, .int .i64 v.n, .string v.s] 23 (0, 0))
  bel : Below w0.heap.size w0 W
  y : w0.heap.size ≤ L.yb
  yb : b ≠ L.yb

theorem LawR.below {w0 : World} {b : Nat} {v : VL} {k : Nat} {L : Lc} {m : Nat} {W W' : World} (h : LawR w0 b v k L m W) (hb : Below W.heap.size W W') : LawR w0 b v k L m W' :=
  ⟨h.st.below hb, keep_below hb h.box, h.bel.trans (hb.mono h.bel.size), h.y, h.yb⟩
theorem LawR.keep {w0 : World} {b : Nat} {v : VL} {k : Nat} {L : Lc} {m m' : Nat} {W W' : World} (h : LawR w0 b v k L m W) (hk : Keep L.yb W W') (hs : St L (stM v k m') W') : LawR w0 b v k L m' W' :=
  ⟨hs, hk.heap h.box h.yb, h.bel.trans (hk.below h.y h.bel.size), h.y, h.yb⟩

/-- the realm when the record is closed -/
structure LawE (w0 : World) (b : Nat) (v : VL) (L : Lc) (W : World) : Prop where
  st : ∃ ys, ys[2]? = some ⟨3, 1, ⟨#[]⟩⟩ ∧ St L ys W
  box : W.heap[b]? = some (.cells #[.int .i64 v.k, .int .i64 v.n, .string v.s] 23 (0, 0))
  bel : Below w0.heap.size w0 W

theorem LawE.below {w0 : World} {b : Nat} {v : VL} {L : Lc} {W W' : World} (h : LawE w0 b v L W) (hb : Below W.heap.size W W') : LawE w0 b v L W' := by
  obtain ⟨ys, h1, h2⟩ := h.st
  exact ⟨⟨ys, h1, h2.below hb⟩, keep_below hb h.box, h.bel.trans (hb.mono h.bel.size)⟩
theorem LawR.close {w0 : World} {b : Nat} {v : VL} {k : Nat} {L : Lc} {m : Nat} {W W' : World} {e : Ending} (h : LawR w0 b v k L m W) (hc : CdR L W e W') : LawE w0 b v L W' :=
  ⟨hc.ex, hc.keep.heap h.box h.yb, h.bel.trans (hc.keep.below h.y h.bel.size)⟩

/-- behind Push -/
theorem law_push {q : Lp} {v : VL} {w0 w1 w2 w3 : World} {e : Ending} {yb yo yc eb ec n k : Nat} (hb1 : Below w0.heap.size w0 w1) (hbox : w1.heap[w0.heap.size]? = some (.cells #[.int .i64 v.k, .int .i64 v.n, .string v.s] 23 (0, 0)))
    (q1 : w0.heap.size < q.wb) (q2 : w0.heap.size < q.hb) (q3 : w0.heap.size < q.yb) (q4 : w0.heap.size < q.rb) (hk : KeepQ q w1 w2) (hyb : yb = q.yb ∨ w1.heap.size ≤ yb) (_hm : Mid q yb yo yc eb ec n (xsOf v k) w2) {W : World} (hW : Below w2.heap.size w2 W) (hp : PuR q yb yo yc eb ec (xsOf v k) W e w3) :
    ∃ L, L.wb = q.wb ∧ L.wo = q.wo ∧ LawR w0 w0.heap.size v k L 0 w3 := by
  obtain ⟨rb, ro, rc, hst⟩ := hp.ex
  have hz1 : w0.heap.size < w1.heap.size := (Array.getElem?_eq_some_iff.1 hbox).1
  have hz2 := hk.size
  have hz3 := hW.size
  have b2 : Below (w0.heap.size + 1) w1 w2 := keepQ_below hk q1 q2 q3 q4 hz1
  have b3 : Below (w0.heap.size + 1) w1 W := b2.trans (hW.mono (by omega))
  have b4 : Below (w0.heap.size + 1) w1 w3 := b3.trans (keep2_below hp.keep q4 q2 (by omega))
  refine ⟨_, rfl, rfl, ⟨by rw [stM_zero]; exact hst, ?_, hb1.trans (b4.mono (by omega)), ?_, ?_⟩⟩
  · rw [b4.block _ (by omega)]
    exact hbox
  · show w0.heap.size ≤ yb
    omega
  · show w0.heap.size ≠ yb
    omega

theorem may_r (v : VL) (hf : fits v.k v.n v.s) (w : World) : Calls Tryz.prog 5 #[.agg #[.int .i64 v.k, .int .i64 v.n, .string v.s]] w fun e w' => e = .returned (.bool (AE.mayP v.k v.n v.s.size)) ∧ Below w.heap.size w w' :=
  may_ret v.k v.n v.s hf.1 hf.2.1 hf.2.2 w

theorem okV_of {v : VL} (hf : fits v.k v.n v.s) (hm : AE.mayP v.k v.n v.s.size = true) (h7 : v.k ≠ 7) (h9 : v.k ≠ 9) : OkV v :=
  ⟨by have := mayP_kind hm; omega, hf.2.1, hm⟩

def anyY : Sy := ⟨fun _ => 0, fun _ => .empty, fun _ => (none, 0, 0), fun _ => undef⟩

set_option maxHeartbeats 2000000 in
theorem law_out (v : VL) (i : Int) (hf : fits v.k v.n v.s) (ho : AE.mayP v.k v.n v.s.size = false ∨ v.k = 7 ∨ v.k = 9 ∨ 300 < v.s.size) (w : World) :
    Calls Tryz.prog 3 #[.agg #[.int .i64 v.k, .int .i64 v.n, .string v.s], .int .i64 i] w fun e w' => e = .returned (.bool true) ∧ Below w.heap.size w w' := by
  have HM := Lib.hid (may_r v hf)
  obtain ⟨k, n, s⟩ := v
  dsimp only at *
  generalize hb : AE.mayP k n s.size = b at *
  have HB := Lib.hid (new_below w (.cells #[.int .i64 k, .int .i64 n, .string s] 23))
  have HX := Lib.hid (heap_alloc_new w (.cells #[.int .i64 k, .int .i64 n, .string s] 23))
  clear hb
  have hlen : s.size ≤ 9223372036854775807 := hf.2.2
  clear hf
  cases b
  · clear ho
    go_enter Tryz.func3, Tryz.ntmps3
    go_wp2_with (first
      | (go_at_call 4; refine (made_ret anyY _).mono ?_; rintro e w1 ⟨⟨q, rfl, hP, q1, q2, q3, q4⟩, hb1⟩; have HB1 := Lib.hid (HB.out.trans (hb1.mono HB.out.size)); have HX1 := Lib.hid (keep_below hb1 HX.out); obtain ⟨c0, c1, c2, cf⟩ := box3 HX1.out; clear hP hb1 q1 q2 q3 q4)
      | (go_at_call 5; refine (HM.out _).mono ?_; rintro e w2 ⟨rfl, hb2⟩; have HB2 := Lib.hid (HB1.out.trans (hb2.mono HB1.out.size)); have HX2 := Lib.hid (keep_below hb2 HX1.out); clear c0 c1 c2 cf; obtain ⟨c0, c1, c2, cf⟩ := box3 HX2.out; clear hb2)
      | (go_at_call 6; refine (lives_ret _).mono ?_; rintro e w3 ⟨rfl, hb3⟩; have HB3 := Lib.hid (HB2.out.trans (hb3.mono HB2.out.size)); clear hb3)
      | fail)
    go_ret
    exact ⟨rfl, HB3.out⟩
  · replace ho : k = 7 ∨ (k ≠ 7 ∧ k = 9) ∨ (k ≠ 7 ∧ k ≠ 9 ∧ 300 < s.size) := by
      rcases ho with h | h | h | h
      · cases h
      · omega
      · omega
      · omega
    rcases ho with h7 | ⟨h7, h9⟩ | ⟨h7, h9, h3⟩
    · subst h7
      go_enter Tryz.func3, Tryz.ntmps3
      go_wp2_with (first
        | (go_at_call 4; refine (made_ret anyY _).mono ?_; rintro e w1 ⟨⟨q, rfl, hP, q1, q2, q3, q4⟩, hb1⟩; have HB1 := Lib.hid (HB.out.trans (hb1.mono HB.out.size)); have HX1 := Lib.hid (keep_below hb1 HX.out); obtain ⟨c0, c1, c2, cf⟩ := box3 HX1.out; clear hP hb1 q1 q2 q3 q4)
        | (go_at_call 5; refine (HM.out _).mono ?_; rintro e w2 ⟨rfl, hb2⟩; have HB2 := Lib.hid (HB1.out.trans (hb2.mono HB1.out.size)); have HX2 := Lib.hid (keep_below hb2 HX1.out); clear c0 c1 c2 cf; obtain ⟨c0, c1, c2, cf⟩ := box3 HX2.out; clear hb2)
        | (go_at_call 6; refine (lives_ret _).mono ?_; rintro e w3 ⟨rfl, hb3⟩; have HB3 := Lib.hid (HB2.out.trans (hb3.mono HB2.out.size)); clear hb3)
        | fail)
      go_ret
      exact ⟨rfl, HB3.out⟩
    · subst h9
      go_enter Tryz.func3, Tryz.ntmps3
      go_wp2_with (first
        | (go_at_call 4; refine (made_ret anyY _).mono ?_; rintro e w1 ⟨⟨q, rfl, hP, q1, q2, q3, q4⟩, hb1⟩; have HB1 := Lib.hid (HB.out.trans (hb1.mono HB.out.size)); have HX1 := Lib.hid (keep_below hb1 HX.out); obtain ⟨c0, c1, c2, cf⟩ := box3 HX1.out; clear hP hb1 q1 q2 q3 q4)
        | (go_at_call 5; refine (HM.out _).mono ?_; rintro e w2 ⟨rfl, hb2⟩; have HB2 := Lib.hid (HB1.out.trans (hb2.mono HB1.out.size)); have HX2 := Lib.hid (keep_below hb2 HX1.out); clear c0 c1 c2 cf; obtain ⟨c0, c1, c2, cf⟩ := box3 HX2.out; clear hb2)
        | (go_at_call 6; refine (lives_ret _).mono ?_; rintro e w3 ⟨rfl, hb3⟩; have HB3 := Lib.hid (HB2.out.trans (hb3.mono HB2.out.size)); clear hb3)
        | fail)
      go_ret
      exact ⟨rfl, HB3.out⟩
    · have b7 : (k == 7) = false := by simpa using h7
      have b9 : (k == 9) = false := by simpa using h9
      go_enter Tryz.func3, Tryz.ntmps3
      go_wp2_with (first
        | (go_at_call 4; refine (made_ret anyY _).mono ?_; rintro e w1 ⟨⟨q, rfl, hP, q1, q2, q3, q4⟩, hb1⟩; have HB1 := Lib.hid (HB.out.trans (hb1.mono HB.out.size)); have HX1 := Lib.hid (keep_below hb1 HX.out); obtain ⟨c0, c1, c2, cf⟩ := box3 HX1.out; clear hP hb1 q1 q2 q3 q4)
        | (go_at_call 5; refine (HM.out _).mono ?_; rintro e w2 ⟨rfl, hb2⟩; have HB2 := Lib.hid (HB1.out.trans (hb2.mono HB1.out.size)); have HX2 := Lib.hid (keep_below hb2 HX1.out); clear c0 c1 c2 cf; obtain ⟨c0, c1, c2, cf⟩ := box3 HX2.out; clear hb2)
        | (go_at_call 6; refine (lives_ret _).mono ?_; rintro e w3 ⟨rfl, hb3⟩; have HB3 := Lib.hid (HB2.out.trans (hb3.mono HB2.out.size)); clear hb3)
        | fail)
      go_ret
      exact ⟨rfl, HB3.out⟩

theorem rem302 (i : Int) : ∃ (a : Int) (N : Nat), i.tmod 302 = a ∧ -302 < a ∧ a < 302 ∧ (a + 302).tmod 302 = (N : Int) ∧ N < 302 := by
  have h : -302 < i.tmod 302 ∧ i.tmod 302 < 302 := by
    by_cases h : 0 ≤ i
    · rw [Int.tmod_eq_emod_of_nonneg h]; omega
    · have := Int.neg_tmod i 302
      rw [Int.tmod_eq_emod_of_nonneg (by omega)] at this
      omega
  refine ⟨_, ((i.tmod 302 + 302) % 302).toNat, rfl, h.1, h.2, ?_, by omega⟩
  rw [Int.tmod_eq_emod_of_nonneg (by omega)]
  omega

set_option maxHeartbeats 4000000 in
theorem law_text (n : Int) (s : ByteArray) (i : Int) (hf : fits 5 n s) (hm : AE.mayP 5 n s.size = true) (hs : s.size ≤ 300) (hi : inI i) (w : World) (hG : Tab w) (h0 : 0 < w.heap.size) :
    Calls Tryz.prog 3 #[.agg #[.int .i64 5, .int .i64 n, .string s], .int .i64 i] w fun e w' => e = .returned (.bool true) ∧ Below w.heap.size w w' := by
  have HM := Lib.hid (may_r ⟨5, n, s⟩ hf)
  have HV := Lib.hid (okV_of (v := ⟨5, n, s⟩) hf hm (by show (5 : Int) ≠ 7; decide) (by show (5 : Int) ≠ 9; decide))
  have HT := Lib.hid hG
  have HB := Lib.hid (new_below w (.cells #[.int .i64 5, .int .i64 n, .string s] 23))
  have HX := Lib.hid (heap_alloc_new w (.cells #[.int .i64 5, .int .i64 n, .string s] 23))
  have hz0 : w.heap.size + 1 ≤ (w.alloc (.cells #[.int .i64 5, .int .i64 n, .string s] 23)).heap.size := by simp
  dsimp only at HM
  rw [hm] at HM
  clear hf hm hG
  obtain ⟨a, N, hr, ha1, ha2, hN, hN2⟩ := rem302 i
  have hwa := Go.IntWalk.i64_in (a + 302) ⟨by omega, by omega⟩
  go_enter Tryz.func3, Tryz.ntmps3
  go_wp2_with (first
    | (go_at_call 4; refine (made_ret anyY _).mono ?_; rintro e w1 ⟨⟨q, rfl, hP, q1, q2, q3, q4⟩, hb1⟩; have HB1 := Lib.hid (HB.out.trans (hb1.mono HB.out.size)); have HX1 := Lib.hid (keep_below hb1 HX.out); obtain ⟨c0, c1, c2, cf⟩ := box3 HX1.out; replace hP := Lib.hid hP; replace q1 := Nat.le_trans hz0 q1; replace q2 := Nat.le_trans hz0 q2; replace q3 := Nat.le_trans hz0 q3; replace q4 := Nat.le_trans hz0 q4; clear hb1)
    | (go_at_call 5; refine (HM.out _).mono ?_; rintro e w2 ⟨rfl, hb2⟩; have HB2 := Lib.hid (HB1.out.trans (hb2.mono HB1.out.size)); have HX2 := Lib.hid (keep_below hb2 HX1.out); have HP2 := Lib.hid (hP.out.below hb2); have hz2 : w.heap.size < w2.heap.size := (Array.getElem?_eq_some_iff.1 HX2.out).1; clear c0 c1 c2 cf; obtain ⟨c0, c1, c2, cf⟩ := box3 HX2.out; clear hb2)
    | (go_at_call 7; refine (keys_text q n s hs HV.out w2 HP2.out (HT.out.at0 (HB2.out.block 0 h0)) (by omega) (by omega)).mono ?_; rintro e w3 ⟨rfl, hex, hk3⟩; replace hex := Lib.hid hex; have HK3 := Lib.hid hk3; have HX3 := Lib.hid ((hk3.block _ hz2 (by omega) (by omega) (by omega) (by omega)).trans HX2.out); clear c0 c1 c2 cf; obtain ⟨c0, c1, c2, cf⟩ := box3 HX3.out; clear hk3; unfold endA)
    | fail)
  obtain ⟨yb, yo, yc, eb, ec, nn, hyb, hM⟩ := hex.out
  go_at_call 8
  refine (rpush_ret q yb yo yc eb ec nn (xsOf ⟨5, n, s⟩ s.size) _ (hM.below (new_below w3 _))).mono ?_
  rintro e w4 hp
  obtain ⟨L, e1, e2, hL⟩ := law_push (v := ⟨5, n, s⟩) HB2.out HX2.out (by omega) (by omega) (by omega) (by omega) HK3.out hyb hM (new_below w3 _) hp
  obtain rfl := hp.ret
  have HL := Lib.hid hL
  clear hp hL hM hex hyb c0 c1 c2 cf
  obtain ⟨c0, c1, c2, cf⟩ := box3 HL.out.box
  have HAT : Hid (∀ m W, LawR w w.heap.size ⟨5, n, s⟩ s.size L m W → Calls Tryz.prog 10 #[.pointer (some ⟨q.wb, q.wo, none⟩), .int .i64 20] W fun e w' => e = .returned recA ∧ Below W.heap.size W w') := Lib.hid fun m W h => by
    rw [← e1, ← e2]
    exact rat_ret L W h.st.fx
  have HNX : Hid (∀ m W, LawR w w.heap.size ⟨5, n, s⟩ s.size L m W → Calls Tryz.prog 9 #[.pointer (some ⟨q.wb, q.wo, none⟩), recA] W fun e w' => e = .returned (endA (outM s.size m)) ∧ Hid (LawR w w.heap.size ⟨5, n, s⟩ s.size L (m + 1) w')) := Lib.hid fun m W h => by
    rw [← e1, ← e2]
    exact (next_round L _ _ m hs W h.st).mono fun e w' he => ⟨he.ret, Lib.hid (h.keep he.keep he.st)⟩
  have HNT : Hid (∀ m W, m < s.size → LawR w w.heap.size ⟨5, n, s⟩ s.size L m W → Calls Tryz.prog 9 #[.pointer (some ⟨q.wb, q.wo, none⟩), .agg #[.int .i64 9, .int .i64 41, .string ⟨#[]⟩]] W fun e w' => e = .returned (.agg #[.int .i64 0, .int .i64 0, .int .i64 5, .int .i64 0, .string (bs (Lib.itoa (m : Int)))]) ∧ Hid (LawR w w.heap.size ⟨5, n, s⟩ s.size L (m + 1) w')) := Lib.hid fun m W hm h => by
    have := HNX.out m W h
    rw [show outM s.size m = txt m from if_pos hm] at this
    exact this
  have HNE : Hid (∀ m W, ¬ m < s.size → LawR w w.heap.size ⟨5, n, s⟩ s.size L m W → Calls Tryz.prog 9 #[.pointer (some ⟨q.wb, q.wo, none⟩), .agg #[.int .i64 9, .int .i64 41, .string ⟨#[]⟩]] W fun e w' => e = .returned (.agg #[.int .i64 0, .int .i64 0, .int .i64 8, .int .i64 0, .string ⟨#[]⟩]) ∧ Hid (LawR w w.heap.size ⟨5, n, s⟩ s.size L (m + 1) w')) := Lib.hid fun m W hm h => by
    have := HNX.out m W h
    rw [show outM s.size m = hole from if_neg hm] at this
    exact this
  go_wp2_with fail
  clear c0 c1 c2 cf
  go_loopw [9] (fun i W => ∃ m : Nat, m ≤ N ∧ i = .int .i64 (m : Int) ∧ Hid (LawR w w.heap.size ⟨5, n, s⟩ s.size L m W)) (fun i _ => N - (intOf i).toNat)
  case atStart => exact ⟨0, Nat.zero_le _, rfl, HL⟩
  case round =>
    obtain ⟨m, hmN, rfl, HLm⟩ := hrel
    obtain ⟨c0, c1, c2, cf⟩ := box3 HLm.out.box
    by_cases hlt : m < N
    · have hwm := Go.IntWalk.i64_in ((m : Int) + 1) ⟨by omega, by omega⟩
      by_cases hms : m < s.size
      · go_wp2_with (first
          | (go_at_call 10; refine (HAT.out m _ HLm.out).mono ?_; rintro e w5 ⟨rfl, hb5⟩; have HL5 := Lib.hid (HLm.out.below hb5); clear hb5; unfold recA)
          | (go_at_call 9; refine (HNT.out m _ hms HL5.out).mono ?_; rintro e w6 ⟨rfl, HL6⟩)
          | fail)
        have HL7 := Lib.hid (HL6.out.below (new_below w6 (.cells #[.int .i64 0, .int .i64 0, .int .i64 5, .int .i64 0, .string (bs (Lib.itoa (m : Int)))] 29)))
        have HX6 := Lib.hid (heap_alloc_new w6 (.cells #[.int .i64 0, .int .i64 0, .int .i64 5, .int .i64 0, .string (bs (Lib.itoa (m : Int)))] 29))
        go_region_with (first
          | (go_at_call 11; refine (digits_ret m (by omega) _).mono ?_; rintro e w7 ⟨rfl, hb7⟩; have hb8 := (Below.refl _ _).drew.trans hb7; have HL8 := Lib.hid (HL7.out.below hb8); obtain ⟨s0, s1, s2, s3, s4, sf⟩ := box5 (keep_below hb8 HX6.out); clear hb7 hb8))
        all_goals
          go_wp2_with fail
          refine ⟨⟨m + 1, by omega, by go_num, HL8⟩, ?_⟩
          simp [intOf]
          omega
      · go_wp2_with (first
          | (go_at_call 10; refine (HAT.out m _ HLm.out).mono ?_; rintro e w5 ⟨rfl, hb5⟩; have HL5 := Lib.hid (HLm.out.below hb5); clear hb5; unfold recA)
          | (go_at_call 9; refine (HNE.out m _ hms HL5.out).mono ?_; rintro e w6 ⟨rfl, HL6⟩)
          | fail)
        refine ⟨⟨m + 1, by omega, by go_num, Lib.hid (HL6.out.below (new_below w6 _))⟩, ?_⟩
        simp [intOf]
        omega
    · obtain rfl : m = N := by omega
      have HCL : Hid (∀ W, LawR w w.heap.size ⟨5, n, s⟩ s.size L m W → Calls Tryz.prog 12 #[.pointer (some ⟨q.wb, q.wo, none⟩), .agg #[.int .i64 9, .int .i64 41, .string ⟨#[]⟩], .bool false] W fun e w' => e = .returned (.agg #[.int .i64 0, .int .i64 0, .int .i64 0, .int .i64 0, .string ⟨#[]⟩]) ∧ Hid (LawE w w.heap.size ⟨5, n, s⟩ L w')) := Lib.hid fun W h => by
        rw [← e1, ← e2]
        exact (close_round L _ _ m W h.st).mono fun e w' he => ⟨he.ret, Lib.hid (h.close he)⟩
      have HAE : Hid (∀ W, LawE w w.heap.size ⟨5, n, s⟩ L W → Calls Tryz.prog 10 #[.pointer (some ⟨q.wb, q.wo, none⟩), .int .i64 20] W fun e w' => e = .returned (.agg #[.int .i64 9, .int .i64 41, .string ⟨#[]⟩]) ∧ Hid (Below W.heap.size W w')) := Lib.hid fun W h => by
        rw [← e1, ← e2]
        obtain ⟨ys, _, hst⟩ := h.st
        exact (rat_ret L W hst.fx).mono fun e w' he => ⟨he.1, Lib.hid he.2⟩
      have HDE : Hid (∀ W, LawE w w.heap.size ⟨5, n, s⟩ L W → Calls Tryz.prog 13 #[.pointer (some ⟨q.wb, q.wo, none⟩), .agg #[.int .i64 9, .int .i64 41, .string ⟨#[]⟩]] W fun e w' => e = .returned (.bool true) ∧ Hid (Below W.heap.size W w')) := Lib.hid fun W h => by
        rw [← e1, ← e2]
        obtain ⟨ys, h2, hst⟩ := h.st
        exact (done_end L ys h2 W hst).mono fun e w' he => ⟨he.1, Lib.hid he.2⟩
      have HEV : Hid (∀ W, LawE w w.heap.size ⟨5, n, s⟩ L W → Calls Tryz.prog 14 #[.pointer (some ⟨q.wb, q.wo, none⟩)] W fun e w' => ∃ g cap, e = .returned (.slice (some ⟨g, 0, none⟩) 1 cap) ∧ Hid (Below W.heap.size W w')) := Lib.hid fun W h => by
        rw [← e1, ← e2]
        obtain ⟨ys, h2, hst⟩ := h.st
        exact (events_ret L ys W hst).mono fun e w' he => by
          obtain ⟨g, cap, hr⟩ := he.ret
          exact ⟨g, cap, hr, Lib.hid he.bel⟩
      have HNV : Hid (∀ W, Calls Tryz.prog 9 #[.pointer (some ⟨q.wb, q.wo, none⟩), .agg #[.int .i64 5, .int .i64 n, .string s]] W fun e w' => e = .returned (.agg #[.int .i64 0, .int .i64 0, .int .i64 8, .int .i64 0, .string ⟨#[]⟩]) ∧ Hid (Below W.heap.size W w')) := Lib.hid fun W =>
        (next_no q.wb q.wo ⟨5, n, s⟩ rfl W).mono fun e w' he => ⟨he.1, Lib.hid he.2⟩
      have HDV : Hid (∀ W, Calls Tryz.prog 13 #[.pointer (some ⟨q.wb, q.wo, none⟩), .agg #[.int .i64 5, .int .i64 n, .string s]] W fun e w' => e = .returned (.bool true) ∧ Hid (Below W.heap.size W w')) := Lib.hid fun W =>
        (done_no q.wb q.wo ⟨5, n, s⟩ rfl W).mono fun e w' he => ⟨he.1, Lib.hid he.2⟩
      have HCV : Hid (∀ W, Calls Tryz.prog 12 #[.pointer (some ⟨q.wb, q.wo, none⟩), .agg #[.int .i64 5, .int .i64 n, .string s], .bool true] W fun e w' => e = .returned (.agg #[.int .i64 0, .int .i64 0, .int .i64 0, .int .i64 0, .string ⟨#[]⟩]) ∧ Hid (Below W.heap.size W w')) := Lib.hid fun W =>
        (close_no q.wb q.wo ⟨5, n, s⟩ true rfl W).mono fun e w' he => ⟨he.1, Lib.hid he.2⟩
      go_wp2_with (first
        | (go_at_call 10; refine (HAE.out _ HE6.out).mono ?_; rintro e w7 ⟨rfl, hb7⟩; have HE7 := Lib.hid (HE6.out.below hb7.out))
        | (go_at_call 10; refine (HAT.out m _ HLm.out).mono ?_; rintro e w5 ⟨rfl, hb5⟩; have HL5 := Lib.hid (HLm.out.below hb5); clear hb5; unfold recA)
        | (go_at_call 12; have hq := HE10; clear hq; refine (HCV.out _).mono ?_; rintro e w11 ⟨rfl, hb11⟩; have HE11 := Lib.hid (HE10.out.below hb11.out); clear c0 c1 c2 cf; obtain ⟨c0, c1, c2, cf⟩ := box3 HE11.out.box)
        | (go_at_call 13; have hq := HE9; clear hq; refine (HDV.out _).mono ?_; rintro e w10 ⟨rfl, hb10⟩; have HE10 := Lib.hid (HE9.out.below hb10.out); clear c0 c1 c2 cf; obtain ⟨c0, c1, c2, cf⟩ := box3 HE10.out.box)
        | (go_at_call 12; refine (HCL.out _ HL5.out).mono ?_; rintro e w6 ⟨rfl, HE6⟩)
        | (go_at_call 13; refine (HDE.out _ HE7.out).mono ?_; rintro e w8 ⟨rfl, hb8⟩; have HE8 := Lib.hid (HE7.out.below hb8.out); clear c0 c1 c2 cf; obtain ⟨c0, c1, c2, cf⟩ := box3 HE8.out.box)
        | (go_at_call 9; refine (HNV.out _).mono ?_; rintro e w9 ⟨rfl, hb9⟩; have HE9 := Lib.hid (HE8.out.below hb9.out); clear c0 c1 c2 cf; obtain ⟨c0, c1, c2, cf⟩ := box3 HE9.out.box)
        | (go_at_call 14; refine (HEV.out _ HE11.out).mono ?_; rintro e w12 ⟨eg, ecap, rfl, hb12⟩; have HE12 := Lib.hid (HE11.out.below hb12.out))
        | (go_at_call 6; refine (lives_ret _).mono ?_; rintro e w13 ⟨rfl, hb13⟩; have HE13 := Lib.hid (HE12.out.below hb13); clear hb13)
        | fail)
      go_ret
      exact ⟨rfl, HE13.out.bel⟩

end Go.Proofs.YtfiainenbpldgaaGreatDoor
