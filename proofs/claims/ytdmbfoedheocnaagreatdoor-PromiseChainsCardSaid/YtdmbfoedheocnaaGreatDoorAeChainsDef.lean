/-
  The law PromiseChains: what one run asks. The first argument modulo 30 is known in each run.
-/
import Derived.Test.YtdmbfoedheocnaaGreatDoorAeThens1
import Derived.Test.YtdmbfoedheocnaaGreatDoorAeAwake
namespace Go.Proofs.YtdmbfoedheocnaaGreatDoor
open Go.AE

def sxN : SX := .bin .rem .u64 (.conv .u64 (.var 0)) (.con 30)
noncomputable def envC (i : Nat) : Env := envF [(sxN, .ofNat i, .ofNat i)]
noncomputable def knC : List Known := [⟨4, [], .bool true⟩]
noncomputable def argsC (b : Bool) : List AV := [mkS .i64 (.var 0) lo64 hi64, mkS .i64 (.var 1) lo64 hi64, .bool b]
noncomputable def chainsRun (i : Nat) (b : Bool) : Bool := evSm (envC i) knC thensSums 300 100 (.fn 3) (argsC b) ⟨.nil, 0, [], []⟩ (fun v _ => sameV v (.bool true))

end Go.Proofs.YtdmbfoedheocnaaGreatDoor
