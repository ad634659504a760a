/-
  The law LibasyncThrows: runs, part 3.
-/
import Derived.Test.YtahijhejnjhkeaaGreatDoorAeLibasyncThrowsDef
namespace Go.Proofs.YtahijhejnjhkeaaGreatDoor
open Go.AE
set_option maxRecDepth 100000

theorem run_libasyncThrows_3 : runLibasyncThrows [mkS .i64 (.var 0) (91) (91), mkS .i64 (.var 1) (-9007199254740992) (9007199254740992), .bool true] = true := by kernel_rfl
theorem run_libasyncThrows_7 : runLibasyncThrows [mkS .i64 (.var 0) (95) (95), mkS .i64 (.var 1) (-9007199254740992) (9007199254740992), .bool true] = true := by kernel_rfl
theorem run_libasyncThrows_11 : runLibasyncThrows [mkS .i64 (.var 0) (101) (101), mkS .i64 (.var 1) (-9007199254740992) (9007199254740992), .bool true] = true := by kernel_rfl
theorem run_libasyncThrows_15 : runLibasyncThrows [mkS .i64 (.var 0) (105) (109), mkS .i64 (.var 1) (-9007199254740992) (9007199254740992), .bool true] = true := by kernel_rfl
theorem run_libasyncThrows_19 : runLibasyncThrows [mkS .i64 (.var 0) (113) (hi64), mkS .i64 (.var 1) (-9007199254740992) (9007199254740992), .bool true] = true := by kernel_rfl
theorem run_libasyncThrows_23 : runLibasyncThrows [mkS .i64 (.var 0) (90) (90), mkS .i64 (.var 1) (-9007199254740992) (9007199254740992), .bool false] = true := by kernel_rfl
theorem run_libasyncThrows_27 : runLibasyncThrows [mkS .i64 (.var 0) (94) (94), mkS .i64 (.var 1) (-9007199254740992) (9007199254740992), .bool false] = true := by kernel_rfl
theorem run_libasyncThrows_31 : runLibasyncThrows [mkS .i64 (.var 0) (100) (100), mkS .i64 (.var 1) (-9007199254740992) (9007199254740992), .bool false] = true := by kernel_rfl
theorem run_libasyncThrows_35 : runLibasyncThrows [mkS .i64 (.var 0) (104) (104), mkS .i64 (.var 1) (-9007199254740992) (9007199254740992), .bool false] = true := by kernel_rfl
theorem run_libasyncThrows_39 : runLibasyncThrows [mkS .i64 (.var 0) (112) (112), mkS .i64 (.var 1) (-9007199254740992) (9007199254740992), .bool false] = true := by kernel_rfl

end Go.Proofs.YtahijhejnjhkeaaGreatDoor
