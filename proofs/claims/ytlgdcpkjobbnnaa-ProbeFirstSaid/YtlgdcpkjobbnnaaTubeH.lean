/- What tube.Has returns. -/
import Derived.Test.YtlgdcpkjobbnnaaTubeT
namespace Go.Proofs.Ytlgdcpkjobbnnaa
open Go.RowKit
namespace Tube
open Kit Plane
theorem ret_bi {a b : Bool} {c : Int} (h : a = b) : Ending.returned (.tuple #[.bool a, .int .i64 c]) = .returned (.tuple #[.bool b, .int .i64 c]) := by rw [h]
end Tube
end Go.Proofs.Ytlgdcpkjobbnnaa
