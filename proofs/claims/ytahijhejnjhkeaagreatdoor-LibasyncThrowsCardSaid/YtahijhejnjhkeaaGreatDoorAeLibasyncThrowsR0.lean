/-
  The law LibasyncThrows: runs, part 0.
-/
import Derived.Test.YtahijhejnjhkeaaGreatDoorAeLibasyncThrowsDef
namespace Go.Proofs.YtahijhejnjhkeaaGreatDoor
open Go.AE
set_option maxRecDepth 100000

theorem run_libasyncThrows_0 : runLibasyncThrows [mkS .i64 (.var 0) (lo64) (hi64), mkS .i64 (.var 1) (lo64) (-9007199254740993), .bool true] = true := by kernel_rfl
theorem run_libasyncThrows_4 : runLibasyncThrows [mkS .i64 (.var 0) (92) (92), mkS .i64 (.var 1) (-9007199254740992) (9007199254740992), .bool true] = true := by kernel_rfl
theorem run_libasyncThrows_8 : runLibasyncThrows [mkS .i64 (.var 0) (96) (96), mkS .i64 (.var 1) (-9007199254740992) (9007199254740992), .bool true] = true := by kernel_rfl
theorem run_libasyncThrows_12 : runLibasyncThrows [mkS .i64 (.var 0) (102) (102), mkS .i64 (.var 1) (-9007199254740992) (9007199254740992), .bool true] = true := by kernel_rfl
theorem run_libasyncThrows_16 : runLibasyncThrows [mkS .i64 (.var 0) (110) (110), mkS .i64 (.var 1) (-9007199254740992) (9007199254740992), .bool true] = true := by kernel_rfl
theorem run_libasyncThrows_20 : runLibasyncThrows [mkS .i64 (.var 0) (lo64) (hi64), mkS .i64 (.var 1) (9007199254740993) (hi64), .bool true] = true := by kernel_rfl
theorem run_libasyncThrows_24 : runLibasyncThrows [mkS .i64 (.var 0) (91) (91), mkS .i64 (.var 1) (-9007199254740992) (9007199254740992), .bool false] = true := by kernel_rfl
theorem run_libasyncThrows_28 : runLibasyncThrows [mkS .i64 (.var 0) (95) (95), mkS .i64 (.var 1) (-9007199254740992) (9007199254740992), .bool false] = true := by kernel_rfl
theorem run_libasyncThrows_32 : runLibasyncThrows [mkS .i64 (.var 0) (101) (101), mkS .i64 (.var 1) (-9007199254740992) (9007199254740992), .bool false] = true := by kernel_rfl
theorem run_libasyncThrows_36 : runLibasyncThrows [mkS .i64 (.var 0) (105) (109), mkS .i64 (.var 1) (-9007199254740992) (9007199254740992), .bool false] = true := by kernel_rfl
theorem run_libasyncThrows_40 : runLibasyncThrows [mkS .i64 (.var 0) (113) (hi64), mkS .i64 (.var 1) (-9007199254740992) (9007199254740992), .bool false] = true := by kernel_rfl

end Go.Proofs.YtahijhejnjhkeaaGreatDoor
