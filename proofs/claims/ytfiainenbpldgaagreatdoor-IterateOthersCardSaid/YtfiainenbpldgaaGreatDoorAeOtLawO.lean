/-
  IterateOthers: the statement's own code, for a value that is no text; the law.
-/
import Derived.Test.YtfiainenbpldgaaGreatDoorAeOtLaw
import Derived.Test.YtfiainenbpldgaaGreatDoorAeOtKeysO
namespace Go.Proofs.YtfiainenbpldgaaGreatDoor
open Go.AE Go.RowKit
set_option maxRecDepth 100000
set_option linter.unusedVariables false
set_option linter.unusedSimpArgs false

set_option maxHeartbeats 4000000 in
theorem law_other (v : VL) (i : Int) (hf : fits v.k v.n v.s) (hm : AE.mayP v.k v.n v.s.size = true) (h5 : v.k ≠ 5) (h7 : v.k ≠ 7) (h9 : v.k ≠ 9) (hs : v.s.size ≤ 300) (hi : inI i) (w : World) (hG : Tab w) (h0 : 0 < w.heap.size) :
    Calls Tryz.prog 3 #[.agg #[.int .i64 v.k, .int .i64 v.n, .string v.s], .int .i64 i] w fun e w' => e = .returned (.bool true) ∧ Below w.heap.size w w' := by
  have HM := Lib.hid (may_r v hf)
  have HV := Lib.hid (okV_of (v := v) hf hm h7 h9)
  have HT := Lib.hid hG
  have HB := Lib.hid (new_below w (.cells #[.int .i64 v.k, .int .i64 v.n, .string v.s] 23))
  have HX := Lib.hid (heap_alloc_new w (.cells #[.int .i64 v.k, .int .i64 v.n, .string v.s] 23))
  have hz0 : w.heap.size + 1 ≤ (w.alloc (.cells #[.int .i64 v.k, .int .i64 v.n, .string v.s] 23)).heap.size := by simp
  have b5 : (v.k == 5) = false := by simpa using h5
  have b7 : (v.k == 7) = false := by simpa using h7
  have b9 : (v.k == 9) = false := by simpa using h9
  have b9' : (v.k != 9) = true := by simpa using h9
  rw [hm] at HM
  clear hf hm hG
  obtain ⟨a, N, hr, ha1, ha2, hN, hN2⟩ := rem302 i
  have hwa := Go.IntWalk.i64_in (a + 302) ⟨by omega, by omega⟩
  go_enter Tryz.func3, Tryz.ntmps3
  go_wp2_with (first
    | (go_at_call 4; refine (made_ret anyY _).mono ?_; rintro e w1 ⟨⟨q, rfl, hP, q1, q2, q3, q4⟩, hb1⟩; have HB1 := Lib.hid (HB.out.trans (hb1.mono HB.out.size)); have HX1 := Lib.hid (keep_below hb1 HX.out); obtain ⟨c0, c1, c2, cf⟩ := box3 HX1.out; replace hP := Lib.hid hP; replace q1 := Nat.le_trans hz0 q1; replace q2 := Nat.le_trans hz0 q2; replace q3 := Nat.le_trans hz0 q3; replace q4 := Nat.le_trans hz0 q4; clear hb1)
    | (go_at_call 5; refine (HM.out _).mono ?_; rintro e w2 ⟨rfl, hb2⟩; have HB2 := Lib.hid (HB1.out.trans (hb2.mono HB1.out.size)); have HX2 := Lib.hid (keep_below hb2 HX1.out); have HP2 := Lib.hid (hP.out.below hb2); have hz2 : w.heap.size < w2.heap.size := (Array.getElem?_eq_some_iff.1 HX2.out).1; clear c0 c1 c2 cf; obtain ⟨c0, c1, c2, cf⟩ := box3 HX2.out; clear hb2)
    | (go_at_call 7; refine (keys_other q v HV.out h5 w2 HP2.out (HT.out.at0 (HB2.out.block 0 h0)) (by omega) (by omega)).mono ?_; rintro e w3 ⟨rfl, hex, hk3⟩; replace hex := Lib.hid hex; have HK3 := Lib.hid hk3; have HX3 := Lib.hid ((hk3.block _ hz2 (by omega) (by omega) (by omega) (by omega)).trans HX2.out); clear c0 c1 c2 cf; obtain ⟨c0, c1, c2, cf⟩ := box3 HX3.out; clear hk3; unfold endA)
    | fail)
  obtain ⟨yb, yo, yc, eb, ec, nn, hyb, hM⟩ := hex.out
  go_at_call 8
  refine (rpush_ret q yb yo yc eb ec nn (xsOf v 0) _ (hM.below (new_below w3 _))).mono ?_
  rintro e w4 hp
  obtain ⟨L, e1, e2, hL⟩ := law_push (v := v) HB2.out HX2.out (by omega) (by omega) (by omega) (by omega) HK3.out hyb hM (new_below w3 _) hp
  obtain rfl := hp.ret
  have HL := Lib.hid hL
  clear hp hL hM hex hyb c0 c1 c2 cf
  obtain ⟨c0, c1, c2, cf⟩ := box3 HL.out.box
  have HAT : Hid (∀ m W, LawR w w.heap.size v 0 L m W → Calls Tryz.prog 10 #[.pointer (some ⟨q.wb, q.wo, none⟩), .int .i64 20] W fun e w' => e = .returned recA ∧ Below W.heap.size W w') := Lib.hid fun m W h => by
    rw [← e1, ← e2]
    exact rat_ret L W h.st.fx
  have HNX : Hid (∀ m W, LawR w w.heap.size v 0 L m W → Calls Tryz.prog 9 #[.pointer (some ⟨q.wb, q.wo, none⟩), recA] W fun e w' => e = .returned (endA (outM 0 m)) ∧ Hid (LawR w w.heap.size v 0 L (m + 1) w')) := Lib.hid fun m W h => by
    rw [← e1, ← e2]
    exact (next_round L _ _ m (by omega) W h.st).mono fun e w' he => ⟨he.ret, Lib.hid (h.keep he.keep he.st)⟩
  have HNE : Hid (∀ m W, LawR w w.heap.size v 0 L m W → Calls Tryz.prog 9 #[.pointer (some ⟨q.wb, q.wo, none⟩), .agg #[.int .i64 9, .int .i64 41, .string ⟨#[]⟩]] W fun e w' => e = .returned (.agg #[.int .i64 0, .int .i64 0, .int .i64 8, .int .i64 0, .string ⟨#[]⟩]) ∧ Hid (LawR w w.heap.size v 0 L (m + 1) w')) := Lib.hid fun m W h => by
    have := HNX.out m W h
    rw [show outM 0 m = hole from if_neg (Nat.not_lt_zero m)] at this
    exact this
  go_wp2_with fail
  clear c0 c1 c2 cf
  go_loopw [9] (fun i W => ∃ m : Nat, m ≤ N ∧ i = .int .i64 (m : Int) ∧ Hid (LawR w w.heap.size v 0 L m W)) (fun i _ => N - (intOf i).toNat)
  case atStart => exact ⟨0, Nat.zero_le _, rfl, HL⟩
  case round =>
    obtain ⟨m, hmN, rfl, HLm⟩ := hrel
    obtain ⟨c0, c1, c2, cf⟩ := box3 HLm.out.box
    by_cases hlt : m < N
    · have hwm := Go.IntWalk.i64_in ((m : Int) + 1) ⟨by omega, by omega⟩
      go_wp2_with (first
        | (go_at_call 10; refine (HAT.out m _ HLm.out).mono ?_; rintro e w5 ⟨rfl, hb5⟩; have HL5 := Lib.hid (HLm.out.below hb5); clear hb5; unfold recA)
        | (go_at_call 9; refine (HNE.out m _ HL5.out).mono ?_; rintro e w6 ⟨rfl, HL6⟩)
        | fail)
      refine ⟨⟨m + 1, by omega, by go_num, Lib.hid (HL6.out.below (new_below w6 _))⟩, ?_⟩
      simp [intOf]
      omega
    · obtain rfl : m = N := by omega
      have HCL : Hid (∀ W, LawR w w.heap.size v 0 L m W → Calls Tryz.prog 12 #[.pointer (some ⟨q.wb, q.wo, none⟩), .agg #[.int .i64 9, .int .i64 41, .string ⟨#[]⟩], .bool false] W fun e w' => e = .returned (.agg #[.int .i64 0, .int .i64 0, .int .i64 0, .int .i64 0, .string ⟨#[]⟩]) ∧ Hid (LawE w w.heap.size v L w')) := Lib.hid fun W h => by
        rw [← e1, ← e2]
        exact (close_round L _ _ m W h.st).mono fun e w' he => ⟨he.ret, Lib.hid (h.close he)⟩
      have HAE : Hid (∀ W, LawE w w.heap.size v L W → Calls Tryz.prog 10 #[.pointer (some ⟨q.wb, q.wo, none⟩), .int .i64 20] W fun e w' => e = .returned (.agg #[.int .i64 9, .int .i64 41, .string ⟨#[]⟩]) ∧ Hid (Below W.heap.size W w')) := Lib.hid fun W h => by
        rw [← e1, ← e2]
        obtain ⟨ys, _, hst⟩ := h.st
        exact (rat_ret L W hst.fx).mono fun e w' he => ⟨he.1, Lib.hid he.2⟩
      have HDE : Hid (∀ W, LawE w w.heap.size v L W → Calls Tryz.prog 13 #[.pointer (some ⟨q.wb, q.wo, none⟩), .agg #[.int .i64 9, .int .i64 41, .string ⟨#[]⟩]] W fun e w' => e = .returned (.bool true) ∧ Hid (Below W.heap.size W w')) := Lib.hid fun W h => by
        rw [← e1, ← e2]
        obtain ⟨ys, h2, hst⟩ := h.st
        exact (done_end L ys h2 W hst).mono fun e w' he => ⟨he.1, Lib.hid he.2⟩
      have HEV : Hid (∀ W, LawE w w.heap.size v L W → Calls Tryz.prog 14 #[.pointer (some ⟨q.wb, q.wo, none⟩)] W fun e w' => ∃ g cap, e = .returned (.slice (some ⟨g, 0, none⟩) 1 cap) ∧ Hid (Below W.heap.size W w')) := Lib.hid fun W h => by
        rw [← e1, ← e2]
        obtain ⟨ys, h2, hst⟩ := h.st
        exact (events_ret L ys W hst).mono fun e w' he => by
          obtain ⟨g, cap, hr⟩ := he.ret
          exact ⟨g, cap, hr, Lib.hid he.bel⟩
      have HNV : Hid (∀ W, Calls Tryz.prog 9 #[.pointer (some ⟨q.wb, q.wo, none⟩), .agg #[.int .i64 v.k, .int .i64 v.n, .string v.s]] W fun e w' => e = .returned (.agg #[.int .i64 0, .int .i64 0, .int .i64 8, .int .i64 0, .string ⟨#[]⟩]) ∧ Hid (Below W.heap.size W w')) := Lib.hid fun W =>
        (next_no q.wb q.wo v b9' W).mono fun e w' he => ⟨he.1, Lib.hid he.2⟩
      have HDV : Hid (∀ W, Calls Tryz.prog 13 #[.pointer (some ⟨q.wb, q.wo, none⟩), .agg #[.int .i64 v.k, .int .i64 v.n, .string v.s]] W fun e w' => e = .returned (.bool true) ∧ Hid (Below W.heap.size W w')) := Lib.hid fun W =>
        (done_no q.wb q.wo v b9' W).mono fun e w' he => ⟨he.1, Lib.hid he.2⟩
      have HCV : Hid (∀ W, Calls Tryz.prog 12 #[.pointer (some ⟨q.wb, q.wo, none⟩), .agg #[.int .i64 v.k, .int .i64 v.n, .string v.s], .bool true] W fun e w' => e = .returned (.agg #[.int .i64 0, .int .i64 0, .int .i64 0, .int .i64 0, .string ⟨#[]⟩]) ∧ Hid (Below W.heap.size W w')) := Lib.hid fun W =>
        (close_no q.wb q.wo v true b9' W).mono fun e w' he => ⟨he.1, Lib.hid he.2⟩
      go_wp2_with (first
        | (go_at_call 10; refine (HAE.out _ HE6.out).mono ?_; rintro e w7 ⟨rfl, hb7⟩; have HE7 := Lib.hid (HE6.out.below hb7.out))
        | (go_at_call 10; refine (HAT.out m _ HLm.out).mono ?_; rintro e w5 ⟨rfl, hb5⟩; have HL5 := Lib.hid (HLm.out.below hb5); clear hb5; unfold recA)
        | (go_at_call 12; have hq := HE10; clear hq; refine (HCV.out _).mono ?_; rintro e w11 ⟨rfl, hb11⟩; have HE11 := Lib.hid (HE10.out.below hb11.out); clear c0 c1 c2 cf; obtain ⟨c0, c1, c2, cf⟩ := box3 HE11.out.box)
        | (go_at_call 13; have hq := HE9; clear hq; refine (HDV.out _).mono ?_; rintro e w10 ⟨rfl, hb10⟩; have HE10 := Lib.hid (HE9.out.below hb10.out); clear c0 c1 c2 cf; obtain ⟨c0, c1, c2, cf⟩ := box3 HE10.out.box)
        | (go_at_call 12; refine (HCL.out _ HL5.out).mono ?_; rintro e w6 ⟨rfl, HE6⟩)
        | (go_at_call 13; refine (HDE.out _ HE7.out).mono ?_; rintro e w8 ⟨rfl, hb8⟩; have HE8 := Lib.hid (HE7.out.below hb8.out); clear c0 c1 c2 cf; obtain ⟨c0, c1, c2, cf⟩ := box3 HE8.out.box)
        | (go_at_call 9; refine (HNV.out _).mono ?_; rintro e w9 ⟨rfl, hb9⟩; have HE9 := Lib.hid (HE8.out.below hb9.out); clear c0 c1 c2 cf; obtain ⟨c0, c1, c2, cf⟩ := box3 HE9.out.box)
        | (go_at_call 14; refine (HEV.out _ HE11.out).mono ?_; rintro e w12 ⟨eg, ecap, rfl, hb12⟩; have HE12 := Lib.hid (HE11.out.below hb12.out))
        | (go_at_call 6; refine (lives_ret _).mono ?_; rintro e w13 ⟨rfl, hb13⟩; have HE13 := Lib.hid (HE12.out.below hb13); clear hb13)
        | fail)
      go_ret
      exact ⟨rfl, HE13.out.bel⟩

theorem law_ret (v : VL) (i : Int) (hf : fits v.k v.n v.s) (hi : inI i) (w : World) (hG : Tab w) (h0 : 0 < w.heap.size) :
    Calls Tryz.prog 3 #[.agg #[.int .i64 v.k, .int .i64 v.n, .string v.s], .int .i64 i] w fun e w' => e = .returned (.bool true) ∧ Below w.heap.size w w' := by
  cases hm : AE.mayP v.k v.n v.s.size with
  | false => exact law_out v i hf (.inl hm) w
  | true =>
    by_cases h7 : v.k = 7
    · exact law_out v i hf (.inr (.inl h7)) w
    by_cases h9 : v.k = 9
    · exact law_out v i hf (.inr (.inr (.inl h9))) w
    by_cases hs : v.s.size ≤ 300
    · by_cases h5 : v.k = 5
      · obtain ⟨k, n, s⟩ := v
        dsimp only at *
        subst h5
        exact law_text n s i hf hm hs hi w hG h0
      · exact law_other v i hf hm h5 h7 h9 hs hi w hG h0
    · exact law_out v i hf (.inr (.inr (.inr (by omega)))) w

end Go.Proofs.YtfiainenbpldgaaGreatDoor
