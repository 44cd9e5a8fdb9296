import Derived.Test.YtlcgkdhcdldlfaaDoorPlan
namespace Go.Proofs.YtlcgkdhcdldlfaaDoor
open Go.RowKit Go.Maps

end Go.Proofs.YtlcgkdhcdldlfaaDoor
