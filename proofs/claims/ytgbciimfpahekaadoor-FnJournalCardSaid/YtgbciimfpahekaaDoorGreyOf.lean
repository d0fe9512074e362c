/- The grey picture of a picture: the program's. -/
import Derived.Test.YtgbciimfpahekaaDoorGrid
import Derived.Test.YtgbciimfpahekaaDoorImgOf
namespace Go.Proofs.YtgbciimfpahekaaDoor
open Go.RowKit

def gf (L : List Bool) (W H x y : Nat) : Int := if bit L W H x y then 0 else 99
end Go.Proofs.YtgbciimfpahekaaDoor
