/-
  The specification's examples hold.
-/
import Derived.Test.YtfngechoipngmaaGreatDoorAeAgGoesQ
namespace Go.Proofs.YtfngechoipngmaaGreatDoor
open Go.RowKit Go.AE
set_option maxRecDepth 100000

noncomputable def goesQs : List (FuncId × List Qt) :=
  [(41, [⟨[.str [102]], [], .str [34, 102, 34]⟩]),
   (120, [⟨[.str [48]], [], .tuple [.i64 0, .niliface]⟩, ⟨[.str [49]], [], .tuple [.i64 1, .niliface]⟩, ⟨[.str [53]], [], .tuple [.i64 5, .niliface]⟩]),
   (19, [⟨[.agg [.i64 1, .i64 0, .i64 0, .i64 0]], gX, .str [108, 111, 97, 100, 32, 114, 48, 32, 99, 48]⟩, ⟨[.agg [.i64 48, .i64 0, .i64 0, .i64 0]], gX, .str [114, 101, 116, 117, 114, 110, 32, 114, 48]⟩,
     ⟨[.agg [.i64 23, .i64 1, .i64 2, .i64 7]], gX, .str [115, 101, 116, 32, 114, 49, 32, 114, 50, 32, 114, 51, 33]⟩, ⟨[.agg [.i64 16, .i64 1, .i64 2, .i64 5]], gX, .str [112, 117, 116, 32, 114, 49, 32, 114, 50, 32, 114, 49, 60]⟩,
     ⟨[.agg [.i64 41, .i64 3, .i64 0, .i64 0]], gX, .str [106, 117, 109, 112, 116, 114, 117, 101, 32, 64, 51, 32, 114, 48]⟩])]

section
variable {Y : Sy}

theorem goesQs_ok : QtsOk Y envG goesQs := by
  refine QtsOk.cons ?_ (QtsOk.cons ?_ (QtsOk.cons ?_ QtsOk.nil))
  · intro q hq
    rw [List.mem_singleton.1 hq]
    exact quote_qt
  · intro q hq
    rcases List.mem_cons.1 hq with rfl | hq
    · exact atoi_qt [48] 0 (by decide) (by decide) (by kernel_rfl)
    rcases List.mem_cons.1 hq with rfl | hq
    · exact atoi_qt [49] 1 (by decide) (by decide) (by kernel_rfl)
    rw [List.mem_singleton.1 hq]
    exact atoi_qt [53] 5 (by decide) (by decide) (by kernel_rfl)
  · intro q hq
    rcases List.mem_cons.1 hq with rfl | hq
    · exact line_qt 1 0 0 0 _ (by decide) (by decide) (by unfold inI; decide) (by unfold inI; decide) (by unfold inI; decide) (by decide) (by kernel_rfl)
    rcases List.mem_cons.1 hq with rfl | hq
    · exact line_qt 48 0 0 0 _ (by decide) (by decide) (by unfold inI; decide) (by unfold inI; decide) (by unfold inI; decide) (by decide) (by kernel_rfl)
    rcases List.mem_cons.1 hq with rfl | hq
    · exact line_qt 23 1 2 7 _ (by decide) (by decide) (by unfold inI; decide) (by unfold inI; decide) (by unfold inI; decide) (by decide) (by kernel_rfl)
    rcases List.mem_cons.1 hq with rfl | hq
    · exact line_qt 16 1 2 5 _ (by decide) (by decide) (by unfold inI; decide) (by unfold inI; decide) (by unfold inI; decide) (by decide) (by kernel_rfl)
    rw [List.mem_singleton.1 hq]
    exact line_qt 41 3 0 0 _ (by decide) (by decide) (by unfold inI; decide) (by unfold inI; decide) (by unfold inI; decide) (by decide) (by kernel_rfl)

theorem primsG_ok : PrimsOk envG prims :=
  PrimsOk.cons (by kernel_rfl) rfl (fun s c w => stringslite_IndexByte s c w)
    (PrimsOk.cons (by kernel_rfl) rfl (fun s c w => stringslite_Index_one s c w) PrimsOk.nil)

theorem goes_run : evSq envG goesQs prims [] [textSum] 300 100 (.fn 6) [] (heapG gO 7) (fun v _ => sameV v (.bool true)) = true := by kernel_rfl

theorem goes_qt : QtOk Y envG 6 ⟨[], gX, .bool true⟩ :=
  qt_of_rec (evSq_ok (envG_ok Y) (by kernel_rfl) goesQs_ok primsG_ok KnownOk.nil (SumsOk.cons text_sum SumsOk.nil) 300 100) (by kernel_rfl) goes_run

end

theorem goes_ret (w : World) (hG : G w) : Calls Tryz.prog 6 #[] w fun e w' => e = .returned (.bool true) ∧ Below w.heap.size w w' := by
  obtain ⟨_, h⟩ := goes_qt (Y := ⟨fun _ => 0, fun _ => ByteArray.empty, fun _ => (none, 0, 0), fun _ => undef⟩)
  refine (h w [] rfl (laid_of_G hG)).mono fun e w' he => ?_
  obtain ⟨cv, rfl, hc, hb⟩ := he
  cases hc
  exact ⟨rfl, hb⟩

end Go.Proofs.YtfngechoipngmaaGreatDoor
