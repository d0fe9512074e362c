/- The reference's pictures: whether valid. -/
import Derived.Test.YtajepoopicoodaaSPic
namespace Go.Proofs.Ytajepoopicoodaa
open Go.RowKit

end Go.Proofs.Ytajepoopicoodaa
