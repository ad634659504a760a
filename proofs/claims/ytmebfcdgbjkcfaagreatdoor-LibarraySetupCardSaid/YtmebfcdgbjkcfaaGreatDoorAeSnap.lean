/-
  Blocks picked out of a snapshot of the heap.
-/
import Derived.Test.YtmebfcdgbjkcfaaGreatDoorAeSum
namespace Go.AE
noncomputable section

def pickFrom (t : T AObj) (b n : Nat) (l : List (Nat × AObj)) : List (Nat × AObj) :=
  Nat.rec (motive := fun _ => List (Nat × AObj)) l (fun m ih => forceN (Nat.add b m) fun c => Option.rec (motive := fun _ => List (Nat × AObj)) ih (fun o => (c, o) :: ih) (getO t c)) n

/-- the blocks of these ranges (from, how many) -/
def pickO (t : T AObj) : List (Nat × Nat) → List (Nat × AObj)
  | [] => []
  | (b, n) :: r => pickFrom t b n (pickO t r)

end
end Go.AE
