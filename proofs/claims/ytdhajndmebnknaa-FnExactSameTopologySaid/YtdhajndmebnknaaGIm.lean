/- Grey pictures: whether valid: the program's test; sizes. -/
import Derived.Test.YtdhajndmebnknaaGIs
import Derived.Test.YtdhajndmebnknaaImgOf
namespace Go.Proofs.Ytdhajndmebnknaa
open Go.RowKit

end Go.Proofs.Ytdhajndmebnknaa
