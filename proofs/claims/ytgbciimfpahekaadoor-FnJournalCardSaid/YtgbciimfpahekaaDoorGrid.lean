/- Images: grid. -/
import Derived.Test.YtgbciimfpahekaaDoorMatP
import Derived.Test.YtgbciimfpahekaaDoorImgC
namespace Go.Proofs.YtgbciimfpahekaaDoor
open Go.RowKit

def rowI (f : Nat → Nat → Int) (y k : Nat) : List Int := (List.range k).map fun x => f x y
theorem rowI_succ (f : Nat → Nat → Int) (y k : Nat) : rowI f y (k + 1) = rowI f y k ++ [f k y] := by simp [rowI, List.range_succ]
theorem rowI_length (f : Nat → Nat → Int) (y k : Nat) : (rowI f y k).length = k := by simp [rowI]
def gridI (f : Nat → Nat → Int) (W k : Nat) : List (List Int) := (List.range k).map fun y => rowI f y W
theorem gridI_succ (f : Nat → Nat → Int) (W k : Nat) : gridI f W (k + 1) = gridI f W k ++ [rowI f k W] := by simp [gridI, List.range_succ]
theorem gridI_length (f : Nat → Nat → Int) (W k : Nat) : (gridI f W k).length = k := by simp [gridI]
end Go.Proofs.YtgbciimfpahekaaDoor
