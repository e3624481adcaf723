/- PolyE. -/
import Derived.Test.YteieagihdflapaaGreatDoorJ30
namespace Go.Proofs.YteieagihdflapaaGreatDoor
open Go.RowKit
namespace Poly
open Kit Plane
/-- polygon.far's answer. -/
def farB (ax ay bx by' qx qy d : Int) : Bool :=
  if (bx - ax) * (qx - ax) + (by' - ay) * (qy - ay) ≤ 0 then decide (d * d < sqr ax ay qx qy)
  else if (bx - ax) * (bx - ax) + (by' - ay) * (by' - ay) ≤ (bx - ax) * (qx - ax) + (by' - ay) * (qy - ay) then decide (d * d < sqr bx by' qx qy)
  else decide (d * d * ((bx - ax) * (bx - ax) + (by' - ay) * (by' - ay)) < ((bx - ax) * (qy - ay) - (by' - ay) * (qx - ax)) * ((bx - ax) * (qy - ay) - (by' - ay) * (qx - ax)))
theorem hilo {m n : Nat} : (n / 18446744073709551616 < m / 18446744073709551616 ∨ m / 18446744073709551616 = n / 18446744073709551616 ∧ n % 18446744073709551616 < m % 18446744073709551616) ↔ n < m := by omega
end Poly
end Go.Proofs.YteieagihdflapaaGreatDoor
