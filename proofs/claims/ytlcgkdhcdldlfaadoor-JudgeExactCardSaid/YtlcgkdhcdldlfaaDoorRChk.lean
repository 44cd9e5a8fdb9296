import Derived.Test.YtlcgkdhcdldlfaaDoorNodes
namespace Go.Proofs.YtlcgkdhcdldlfaaDoor
open Go.RowKit

end Go.Proofs.YtlcgkdhcdldlfaaDoor
