import Derived.Test.YtcambbnmeiolgaaChk
namespace Go.Proofs.Ytcambbnmeiolgaa
open Go.RowKit

end Go.Proofs.Ytcambbnmeiolgaa
