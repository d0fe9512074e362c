/- The grey picture of a picture: the program's. -/
import Derived.Test.YtajepoopicoodaaGrid
import Derived.Test.YtajepoopicoodaaImgOf
namespace Go.Proofs.Ytajepoopicoodaa
open Go.RowKit

def gf (L : List Bool) (W H x y : Nat) : Int := if bit L W H x y then 0 else 99
end Go.Proofs.Ytajepoopicoodaa
