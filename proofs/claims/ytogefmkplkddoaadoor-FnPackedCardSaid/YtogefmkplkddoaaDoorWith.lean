/- Pictures made out of pictures: withImage. -/
import Derived.Test.YtogefmkplkddoaaDoorImgOf
namespace Go.Proofs.YtogefmkplkddoaaDoor
open Go.RowKit

/-- A call has returned a picture in new memory, and a bool. -/
def PicRes (w : World) (R : List ByteArray) (ok : Bool) (e : Ending) (w' : World) : Prop :=
  ∃ A c, e = .returned (.tuple #[.agg #[.slice A R.length c], .bool ok]) ∧ w'.ownsRow w.heap.size 9 1 (.slice A R.length c) R.length (strs R) ∧ Below w.heap.size w w'

end Go.Proofs.YtogefmkplkddoaaDoor
