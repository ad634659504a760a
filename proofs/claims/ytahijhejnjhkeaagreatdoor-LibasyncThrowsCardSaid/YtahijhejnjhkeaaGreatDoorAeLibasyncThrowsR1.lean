/-
  The law LibasyncThrows: runs, part 1.
-/
import Derived.Test.YtahijhejnjhkeaaGreatDoorAeLibasyncThrowsDef
namespace Go.Proofs.YtahijhejnjhkeaaGreatDoor
open Go.AE
set_option maxRecDepth 100000

theorem run_libasyncThrows_1 : runLibasyncThrows [mkS .i64 (.var 0) (lo64) (89), mkS .i64 (.var 1) (-9007199254740992) (9007199254740992), .bool true] = true := by kernel_rfl
theorem run_libasyncThrows_5 : runLibasyncThrows [mkS .i64 (.var 0) (93) (93), mkS .i64 (.var 1) (-9007199254740992) (9007199254740992), .bool true] = true := by kernel_rfl
theorem run_libasyncThrows_9 : runLibasyncThrows [mkS .i64 (.var 0) (97) (99), mkS .i64 (.var 1) (-9007199254740992) (9007199254740992), .bool true] = true := by kernel_rfl
theorem run_libasyncThrows_13 : runLibasyncThrows [mkS .i64 (.var 0) (103) (103), mkS .i64 (.var 1) (-9007199254740992) (9007199254740992), .bool true] = true := by kernel_rfl
theorem run_libasyncThrows_17 : runLibasyncThrows [mkS .i64 (.var 0) (111) (111), mkS .i64 (.var 1) (-9007199254740992) (9007199254740992), .bool true] = true := by kernel_rfl
theorem run_libasyncThrows_21 : runLibasyncThrows [mkS .i64 (.var 0) (lo64) (hi64), mkS .i64 (.var 1) (lo64) (-9007199254740993), .bool false] = true := by kernel_rfl
theorem run_libasyncThrows_25 : runLibasyncThrows [mkS .i64 (.var 0) (92) (92), mkS .i64 (.var 1) (-9007199254740992) (9007199254740992), .bool false] = true := by kernel_rfl
theorem run_libasyncThrows_29 : runLibasyncThrows [mkS .i64 (.var 0) (96) (96), mkS .i64 (.var 1) (-9007199254740992) (9007199254740992), .bool false] = true := by kernel_rfl
theorem run_libasyncThrows_33 : runLibasyncThrows [mkS .i64 (.var 0) (102) (102), mkS .i64 (.var 1) (-9007199254740992) (9007199254740992), .bool false] = true := by kernel_rfl
theorem run_libasyncThrows_37 : runLibasyncThrows [mkS .i64 (.var 0) (110) (110), mkS .i64 (.var 1) (-9007199254740992) (9007199254740992), .bool false] = true := by kernel_rfl
theorem run_libasyncThrows_41 : runLibasyncThrows [mkS .i64 (.var 0) (lo64) (hi64), mkS .i64 (.var 1) (9007199254740993) (hi64), .bool false] = true := by kernel_rfl

end Go.Proofs.YtahijhejnjhkeaaGreatDoor
