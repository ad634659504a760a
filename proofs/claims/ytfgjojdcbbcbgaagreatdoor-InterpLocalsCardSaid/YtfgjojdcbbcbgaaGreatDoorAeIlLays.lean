/-
  Where strings.Count and internal/stringslite.Index lie in this program (laid in plain words by the kit's tool); what the evaluator reckons of them.
-/
import Derived.Shelf.LaysM
import Derived.Shelf.Strings.Search3
import Derived.Shelf.Strings.Count
import Derived.Test.YtfgjojdcbbcbgaaGreatDoorAeEnv
namespace Go.Proofs.YtfgjojdcbbcbgaaGreatDoor
open Go.Shelf
set_option maxRecDepth 100000

def idxLays_ren : Go.Shelf.Ren := ⟨fun | 219 => 253 | 217 => 308 | 225 => 309 | 224 => 310 | 267 => 311 | 266 => 373 | 314 => 374 | n => n, fun | 9 => 9 | 3 => 3 | 4 => 4 | 5 => 5 | 46 => 324 | 146 => 366 | 51 => 365 | n => n, fun | 1 => 0 | n => n⟩
theorem idxLays : Go.Proofs.Lays.n219 Tryz.prog idxLays_ren := {
  mixed := by kernel_rfl
  f217 := Tryz.func308.trans (congrArg some (by kernel_rfl))
  f219 := Tryz.func253.trans (congrArg some (by kernel_rfl))
  f224 := Tryz.func310.trans (congrArg some (by kernel_rfl))
  f225 := Tryz.func309.trans (congrArg some (by kernel_rfl))
  f266 := Tryz.func373.trans (congrArg some (by kernel_rfl))
  f267 := Tryz.func311.trans (congrArg some (by kernel_rfl))
  f314 := Tryz.func374.trans (congrArg some (by kernel_rfl))
  t3 := Tryz.underlying3
  a3 := Tryz.isAgg3
  z3 := Tryz.sizeOf3
  v3 := Tryz.zeroValue3
  t4 := Tryz.underlying4
  a4 := Tryz.isAgg4
  z4 := Tryz.sizeOf4
  v4 := Tryz.zeroValue4
  t5 := Tryz.underlying5
  a5 := Tryz.isAgg5
  z5 := Tryz.sizeOf5
  v5 := Tryz.zeroValue5
  t9 := Tryz.underlying9
  a9 := Tryz.isAgg9
  z9 := Tryz.sizeOf9
  v9 := Tryz.zeroValue9
  t46 := Tryz.underlying324
  a46 := Tryz.isAgg324
  z46 := Tryz.sizeOf324
  v46 := Tryz.zeroValue324
  t51 := Tryz.underlying365
  a51 := Tryz.isAgg365
  z51 := Tryz.sizeOf365
  v51 := Tryz.zeroValue365
  t146 := Tryz.underlying366
  a146 := Tryz.isAgg366
  z146 := Tryz.sizeOf366
  v146 := Tryz.zeroValue366
  g1 := by kernel_rfl }
def cntLays_ren : Go.Shelf.Ren := ⟨fun | 138 => 132 | 195 => 198 | 218 => 199 | 143 => 200 | 219 => 253 | 217 => 308 | 225 => 309 | 224 => 310 | 267 => 311 | 266 => 373 | 314 => 374 | n => n, fun | 9 => 9 | 3 => 3 | 4 => 4 | 5 => 5 | 0 => 0 | 46 => 324 | 146 => 366 | 51 => 365 | n => n, fun | 1 => 0 | n => n⟩
theorem cntLays : Go.Proofs.Lays.n138 Tryz.prog cntLays_ren := {
  mixed := by kernel_rfl
  f138 := Tryz.func132.trans (congrArg some (by kernel_rfl))
  f143 := Tryz.func200.trans (congrArg some (by kernel_rfl))
  f195 := Tryz.func198.trans (congrArg some (by kernel_rfl))
  f217 := Tryz.func308.trans (congrArg some (by kernel_rfl))
  f218 := Tryz.func199.trans (congrArg some (by kernel_rfl))
  f219 := Tryz.func253.trans (congrArg some (by kernel_rfl))
  f224 := Tryz.func310.trans (congrArg some (by kernel_rfl))
  f225 := Tryz.func309.trans (congrArg some (by kernel_rfl))
  f266 := Tryz.func373.trans (congrArg some (by kernel_rfl))
  f267 := Tryz.func311.trans (congrArg some (by kernel_rfl))
  f314 := Tryz.func374.trans (congrArg some (by kernel_rfl))
  t0 := Tryz.underlying0
  a0 := Tryz.isAgg0
  z0 := Tryz.sizeOf0
  v0 := Tryz.zeroValue0
  t3 := Tryz.underlying3
  a3 := Tryz.isAgg3
  z3 := Tryz.sizeOf3
  v3 := Tryz.zeroValue3
  t4 := Tryz.underlying4
  a4 := Tryz.isAgg4
  z4 := Tryz.sizeOf4
  v4 := Tryz.zeroValue4
  t5 := Tryz.underlying5
  a5 := Tryz.isAgg5
  z5 := Tryz.sizeOf5
  v5 := Tryz.zeroValue5
  t9 := Tryz.underlying9
  a9 := Tryz.isAgg9
  z9 := Tryz.sizeOf9
  v9 := Tryz.zeroValue9
  t46 := Tryz.underlying324
  a46 := Tryz.isAgg324
  z46 := Tryz.sizeOf324
  v46 := Tryz.zeroValue324
  t51 := Tryz.underlying365
  a51 := Tryz.isAgg365
  z51 := Tryz.sizeOf365
  v51 := Tryz.zeroValue365
  t146 := Tryz.underlying366
  a146 := Tryz.isAgg366
  z146 := Tryz.sizeOf366
  v146 := Tryz.zeroValue366
  g1 := by kernel_rfl }

open Go.AE

noncomputable def prims : List (FuncId × Pm) := [(253, .idx1), (132, .cnt1), (253, .idx 0)]

theorem prims_ok : PrimsOk env prims :=
  PrimsOk.cons (by kernel_rfl) rfl (fun s c w => Any.stringslite_Index_one idxLays s c w)
    (PrimsOk.cons (by kernel_rfl) rfl (fun s c w => Any.strings_Count_one cntLays s c w)
      (PrimsOk.cons (by kernel_rfl) (by kernel_rfl) (fun s t m w h1 h2 => Any.stringslite_Index idxLays s t m w h1 h2) PrimsOk.nil))

end Go.Proofs.YtfgjojdcbbcbgaaGreatDoor
