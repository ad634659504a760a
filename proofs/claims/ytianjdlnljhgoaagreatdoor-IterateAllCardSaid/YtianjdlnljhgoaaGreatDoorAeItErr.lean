/-
  IterateAll: plans whose iterable cannot be opened or has no next.
-/
import Derived.Test.YtianjdlnljhgoaaGreatDoorAeItPath
namespace Go.Proofs.YtianjdlnljhgoaaGreatDoor
open Go.AE
set_option maxRecDepth 100000
noncomputable section

/-- no method that is a function -/
def err1 (m n r : Nat) : Bool := runP env [] (planP (.i64 (.ofNat m)) (.i64 (.ofNat n)) (.i64 (.ofNat r)) (.sint .i64 (.var 7) (-9223372036854775808) 9223372036854775807) (us 0)) [] []
/-- it throws; it returns no object -/
def err2 (n r : Nat) : Bool := runP env [] (planP (.i64 0) (.i64 (.ofNat n)) (.i64 (.ofNat r)) (.i64 1) (us 0)) [] []
def err2c (n r : Nat) : Bool := runP envC [] (planP (.i64 0) (.i64 (.ofNat n)) (.i64 (.ofNat r)) kindC (us 0)) [] []
/-- next is no function -/
def err3 (n r : Nat) : Bool := runP env [] (planP (.i64 0) (.i64 (.ofNat n)) (.i64 (.ofNat r)) (.i64 0) (us 0)) [] []

end
end Go.Proofs.YtianjdlnljhgoaaGreatDoor
