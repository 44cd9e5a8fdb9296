import Derived.Test.YtlcgkdhcdldlfaaDoorFits
namespace Go.Proofs.YtlcgkdhcdldlfaaDoor
open Go.RowKit

end Go.Proofs.YtlcgkdhcdldlfaaDoor
