/- The least heights of ways to the edge: the program's. -/
import Derived.Test.YtdhajndmebnknaaHeiW
import Derived.Laws.EntriesVeiled
namespace Go.Proofs.Ytdhajndmebnknaa
open Go.RowKit

/-- Whether a place is at the edge. -/
def edgeB (W H i : Nat) : Bool := decide (i % W = 0) || decide (i / W = 0) || decide (i % W + 1 = W) || decide (i / W + 1 = H)
theorem edgeB_xy {W H x y : Nat} (hx : x < W) : edgeB W H (y * W + x) = (decide (x = 0) || decide (y = 0) || decide (x + 1 = W) || decide (y + 1 = H)) := by
  rw [edgeB, plD hx, plM hx]
end Go.Proofs.Ytdhajndmebnknaa
