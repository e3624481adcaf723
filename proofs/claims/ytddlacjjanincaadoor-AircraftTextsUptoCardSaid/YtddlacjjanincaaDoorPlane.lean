/- What the functions of package plane return: each walked once. -/
import Derived.Test.YtddlacjjanincaaDoorNum
import Derived.Test.YtddlacjjanincaaDoorPlaneP
import Derived.Test.YtddlacjjanincaaDoorKit
import Derived.Test.YtddlacjjanincaaDoorFrame
namespace Go.Proofs.YtddlacjjanincaaDoor
open Go.RowKit
namespace Plane
open Kit
end Plane
end Go.Proofs.YtddlacjjanincaaDoor
