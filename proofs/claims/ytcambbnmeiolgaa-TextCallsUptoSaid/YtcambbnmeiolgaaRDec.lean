import Derived.Test.YtcambbnmeiolgaaDec
namespace Go.Proofs.Ytcambbnmeiolgaa
open Go.RowKit

end Go.Proofs.Ytcambbnmeiolgaa
