/-
  IterateOthers: iterate.Keys of a value that is no object.
-/
import Derived.Test.YtfiainenbpldgaaGreatDoorAeOtKeysP
namespace Go.Proofs.YtfiainenbpldgaaGreatDoor
open Go.RowKit
set_option maxRecDepth 100000
set_option linter.unusedVariables false
set_option linter.unusedSimpArgs false

set_option maxHeartbeats 4000000 in
theorem keys_text (q : Lp) (n : Int) (s : ByteArray) (hs : s.size ≤ 300) (hv : OkV ⟨5, n, s⟩) (w : World) (h : Pre q (.slice none 0 0) w) (hG : Tab w) (h4 : 0 < w.heap.size) (hw0 : 0 < q.wb) :
    Calls Tryz.prog 7 #[.pointer (some ⟨q.wb, q.wo, none⟩), .agg #[.int .i64 5, .int .i64 n, .string s]] w fun e w' => KyR q (xsOf ⟨5, n, s⟩ s.size) w e w' := by
  obtain ⟨i0, hi, hz0, hz1, hz2⟩ := info_parts valInfo
  have HI := Lib.hid hi
  have HZ0 := Lib.hid hz0
  have HZ1 := Lib.hid hz1
  have HZ2 := Lib.hid hz2
  clear hi hz0 hz1 hz2
  have HO1 : Hid (∀ i, ∀ u ∈ cV (txt i), u.oneCell' = true) := Lib.hid fun i u hu => by
    unfold cV txt at hu
    simp at hu
    rcases hu with rfl | rfl | rfl <;> rfl
  have HV := Lib.hid hv
  have HH := Lib.hid h
  have HT := Lib.hid hG
  clear h hG hv
  have n1 := Lib.hid (below_al2 w (.cells #[.int .i64 5, .int .i64 n, .string s] 23) (.cells #[.int .i64 0, .int .i64 0, .int .i64 0, .int .i64 0, .string ⟨#[]⟩] 29))
  have n2 : ((w.alloc (.cells #[.int .i64 5, .int .i64 n, .string s] 23)).alloc (.cells #[.int .i64 0, .int .i64 0, .int .i64 0, .int .i64 0, .string ⟨#[]⟩] 29)).heap.size = w.heap.size + 2 := by simp
  have n3 := Lib.hid (two_al w (.cells #[.int .i64 5, .int .i64 n, .string s] 23) (.cells #[.int .i64 0, .int .i64 0, .int .i64 0, .int .i64 0, .string ⟨#[]⟩] 29))
  obtain ⟨W, hW⟩ : ∃ W, (w.alloc (.cells #[.int .i64 5, .int .i64 n, .string s] 23)).alloc (.cells #[.int .i64 0, .int .i64 0, .int .i64 0, .int .i64 0, .string ⟨#[]⟩] 29) = W := ⟨_, rfl⟩
  rw [hW] at n1 n2 n3
  go_enter Tryz.func7, Tryz.ntmps7
  go_wp2_with fail
  clear hW
  go_at_call 19
  refine (log_ret q W (HH.out.below n1.out)).mono ?_
  rintro e w1 ⟨⟨rfl, eb, ec, heb, hP, hev⟩, hk⟩
  have hqw := lt_of_cell HH.out.wh
  have r1 := Lib.hid (hk.heap n3.out.1 (by omega))
  have r2 := Lib.hid (hk.heap n3.out.2 (by omega))
  obtain ⟨k0, k1, k2, kf⟩ := box3 r1.out
  have hz1 : w.heap.size + 2 ≤ w1.heap.size := Nat.le_trans (Nat.le_of_eq n2.symm) hk.size
  replace hP := Lib.hid hP
  replace hev := Lib.hid hev
  have HK1 := Lib.hid hk
  have HT1 : Hid (Tab w1) := Lib.hid (HT.out.at0 ((hk.block 0 (by omega) (by omega)).trans (n1.out.block 0 (by omega))))
  clear hk n3
  go_wp2_with fail
  have HX : Hid (∀ W', Below w1.heap.size w1 W' → W'.cell? ⟨w.heap.size, 0, none⟩ = some (.int .i64 5) ∧ W'.cell? ⟨w.heap.size, 1, none⟩ = some (.int .i64 n) ∧ W'.cell? ⟨w.heap.size, 2, none⟩ = some (.string s)) := Lib.hid fun W' hW' => by
    obtain ⟨a0, a1, a2, _⟩ := box3 (keep_below hW' r1.out)
    exact ⟨a0, a1, a2⟩
  go_region_with (first
    | (go_at_call 20; refine (num_ret 0 _).mono ?_; rintro e w3 ⟨rfl, hb3⟩; have HB3 := Lib.hid (HB2.out.trans (hb3.mono HB2.out.size)); clear k0 k1 k2; obtain ⟨k0, k1, k2⟩ := HX.out _ HB3.out; clear hb3)
    | (go_at_call 20; refine (num_ret 0 _).mono ?_; rintro e w2 ⟨rfl, hb2⟩; have HB2 := Lib.hid ((Below.refl w1.heap.size w1).drew.trans hb2); clear k0 k1 k2 kf; obtain ⟨k0, k1, k2⟩ := HX.out _ HB2.out; clear hb2))
  all_goals
    clear r1 k0 k1 k2
    have HR := Lib.hid (RowK.start (w1 := w1) (v := ⟨5, n, s⟩) (W := w3) (cur := #[.int .i64 5, .int .i64 n, .string s, .int .i64 8, .int .i64 0, .string ⟨#[]⟩, .int .i64 3, .int .i64 0, .string ⟨#[]⟩, .int .i64 3, .int .i64 0, .string ⟨#[]⟩]) rfl HB3.out)
    obtain ⟨k0, k1, k2⟩ := HX.out _ HR.out.bel
    go_wp2_with fail
    go_loopw [5, 27] (fun r i W => ∃ (k g cap : Nat), k ≤ s.size ∧ i = .int .i64 (k : Int) ∧ r = .slice (some ⟨g, 0, none⟩) (4 + k) cap ∧ Hid (RowK w1 ⟨5, n, s⟩ k g cap W)) (fun _ i _ => s.size - (intOf i).toNat)
    case atStart => exact ⟨0, _, _, Nat.zero_le _, rfl, rfl, HR⟩
    case round =>
      obtain ⟨k, g, cap, hk, rfl, rfl, HRk⟩ := hrel
      clear k0 k1 k2
      by_cases hlt : k < s.size
      · have HTk : Hid (Tab wr) := Lib.hid (HT1.out.at0 (HRk.out.bel.block 0 (by omega)))
        go_wp2_with (first
          | (go_at_call 22; refine (itoa_ret k (by omega) _ HTk.out).mono ?_; rintro e w4 ⟨rfl, hb4⟩; have HR4 := Lib.hid (HRk.out.below hb4))
          | (go_at_call 21; refine (text_ret _ _).mono ?_; rintro e w5 ⟨rfl, hb5⟩; have HR5 := Lib.hid (HR4.out.below hb5))
          | (at_builtin; refine wpList_append_lies _ rfl _ _ 59 rfl w1.heap.size 23 i0 (.agg #[.int .i64 0, .int .i64 0, .string ⟨#[]⟩]) 3 32 Tryz.underlying59 HI.out HZ0.out HZ1.out HZ2.out rfl (by decide) _ _ _ rfl ((HR5.out.below (new_below w5 _)).own) ⟨w5.heap.size, 0, none⟩ 1 1 (cV (txt k)) rfl rfl (World.news_of_block (heap_alloc_new w5 _)) (HO1.out k) (by decide) (by unfold maxLen; omega) (by omega) (HR5.out.below (new_below w5 _)).bel.size _ rfl ?_; intro g' cap' w6 hown hgrow hat hlt6; have HR6 := Lib.hid ((HR5.out.below (new_below w5 _)).app hown hgrow))
          | fail)
        go_roundw
        case rel => exact ⟨k + 1, g', cap', by omega, by go_num, rfl, HR6⟩
        case measure => simp [intOf]; omega
      · have hke : k = s.size := by omega
        subst hke
        obtain ⟨hL1, hL2⟩ := HRk.out.own'
        have HD : Hid (Calls Tryz.prog 25 #[.pointer (some ⟨q.wb, q.wo, none⟩), cellA 7 0 0 0 (.slice (some ⟨g, 0, none⟩) (4 + s.size) cap)] wr fun e w' => HdR q (xsOf ⟨5, n, s⟩ s.size) wr e w') := Lib.hid (by
          have := hide_ret q _ (xsOf ⟨5, n, s⟩ s.size) (good_xs _ HV.out s.size hs) g 0 cap wr (hP.out.below HRk.out.bel) hL2 hL1
          rw [xsOf_len] at this
          exact this)
        have R2 : Hid (∀ w7, Mk q (xsOf ⟨5, n, s⟩ s.size) wr.heap.size wr w7 → w7.heap[w.heap.size + 1]? = some (.cells #[.int .i64 0, .int .i64 0, .int .i64 0, .int .i64 0, .string ⟨#[]⟩] 29 (0, 0))) := Lib.hid fun w7 hm => by
          have l2 := lt_of_cell HH.out.h0
          have l3 := HH.out.ry.lt
          have l4 := HRk.out.bel.size
          rw [hm.keep.block _ (by omega) (by omega) (by omega), HRk.out.bel.block _ (by omega)]
          exact r2.out
        have HMK : Hid (∀ w7, Mk q (xsOf ⟨5, n, s⟩ s.size) wr.heap.size wr w7 → KyW q (xsOf ⟨5, n, s⟩ s.size) w (w.heap.size + 1) w7) := Lib.hid fun w7 hm =>
          KyW.make (good_xs _ HV.out s.size hs) HH.out n1.out n2 HK1.out heb hP.out hev.out HRk.out.bel hm
        clear hL1 hL2 r2
        go_wp2_with (first
          | (go_at_call 25; refine HD.out.mono ?_; rintro e w7 ⟨rfl, hm⟩; have HW7 := Lib.hid (HMK.out w7 hm); have HR7 := Lib.hid (R2.out w7 hm); clear hm)
          | (go_at_call 24; refine (normal_ret ⟨9, 41, ⟨#[]⟩⟩ _).mono ?_; rintro e w8 ⟨rfl, hb8⟩; have r8 := keep_below hb8 HR7.out; obtain ⟨s0, s1, s2, s3, s4, sf⟩ := box5 r8; have HW8 := Lib.hid (HW7.out.below hb8); clear hb8 r8; unfold endA)
          | fail)
        refine bodyPost_ret (v := endA ⟨9, 41, ⟨#[]⟩⟩) ?_ rfl ?_
        · rw [results_cell_one rfl]
          go_simp
          rfl
        · refine KyW.fin (r := w.heap.size + 1) ?_
          iterate 5 refine KyW.set ?_ _ _
          exact HW8.out

end Go.Proofs.YtfiainenbpldgaaGreatDoor
