/- What fly.Check and fly.At return, whole. -/
import Derived.Test.YtlgdcpkjobbnnaaAt
namespace Go.Proofs.Ytlgdcpkjobbnnaa
open Go.RowKit
namespace Path
open Kit Plane
end Path
end Go.Proofs.Ytlgdcpkjobbnnaa
