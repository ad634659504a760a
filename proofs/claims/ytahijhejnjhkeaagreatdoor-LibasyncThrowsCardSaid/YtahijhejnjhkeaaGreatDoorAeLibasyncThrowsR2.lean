/-
  The law LibasyncThrows: runs, part 2.
-/
import Derived.Test.YtahijhejnjhkeaaGreatDoorAeLibasyncThrowsDef
namespace Go.Proofs.YtahijhejnjhkeaaGreatDoor
open Go.AE
set_option maxRecDepth 100000

theorem run_libasyncThrows_2 : runLibasyncThrows [mkS .i64 (.var 0) (90) (90), mkS .i64 (.var 1) (-9007199254740992) (9007199254740992), .bool true] = true := by kernel_rfl
theorem run_libasyncThrows_6 : runLibasyncThrows [mkS .i64 (.var 0) (94) (94), mkS .i64 (.var 1) (-9007199254740992) (9007199254740992), .bool true] = true := by kernel_rfl
theorem run_libasyncThrows_10 : runLibasyncThrows [mkS .i64 (.var 0) (100) (100), mkS .i64 (.var 1) (-9007199254740992) (9007199254740992), .bool true] = true := by kernel_rfl
theorem run_libasyncThrows_14 : runLibasyncThrows [mkS .i64 (.var 0) (104) (104), mkS .i64 (.var 1) (-9007199254740992) (9007199254740992), .bool true] = true := by kernel_rfl
theorem run_libasyncThrows_18 : runLibasyncThrows [mkS .i64 (.var 0) (112) (112), mkS .i64 (.var 1) (-9007199254740992) (9007199254740992), .bool true] = true := by kernel_rfl
theorem run_libasyncThrows_22 : runLibasyncThrows [mkS .i64 (.var 0) (lo64) (89), mkS .i64 (.var 1) (-9007199254740992) (9007199254740992), .bool false] = true := by kernel_rfl
theorem run_libasyncThrows_26 : runLibasyncThrows [mkS .i64 (.var 0) (93) (93), mkS .i64 (.var 1) (-9007199254740992) (9007199254740992), .bool false] = true := by kernel_rfl
theorem run_libasyncThrows_30 : runLibasyncThrows [mkS .i64 (.var 0) (97) (99), mkS .i64 (.var 1) (-9007199254740992) (9007199254740992), .bool false] = true := by kernel_rfl
theorem run_libasyncThrows_34 : runLibasyncThrows [mkS .i64 (.var 0) (103) (103), mkS .i64 (.var 1) (-9007199254740992) (9007199254740992), .bool false] = true := by kernel_rfl
theorem run_libasyncThrows_38 : runLibasyncThrows [mkS .i64 (.var 0) (111) (111), mkS .i64 (.var 1) (-9007199254740992) (9007199254740992), .bool false] = true := by kernel_rfl

end Go.Proofs.YtahijhejnjhkeaaGreatDoor
