/- Grey pictures: whether valid: the program's test; sizes. -/
import Derived.Test.YtgbciimfpahekaaDoorGIs
import Derived.Test.YtgbciimfpahekaaDoorImgOf
namespace Go.Proofs.YtgbciimfpahekaaDoor
open Go.RowKit

end Go.Proofs.YtgbciimfpahekaaDoor
