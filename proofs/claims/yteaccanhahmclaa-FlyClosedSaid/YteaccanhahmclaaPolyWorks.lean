/- The fixed example of chapter 6 is true. -/
import Derived.Test.YteaccanhahmclaaPolyG
namespace Go.Proofs.Yteaccanhahmclaa
open Go.RowKit
namespace Poly
open Kit Plane
def wX (k : Nat) : Int := if k = 1 ∨ k = 2 then 4 else 0
def wY (k : Nat) : Int := if k = 2 ∨ k = 3 then 4 else 0
theorem works_4 : apart 4 wX wY 7 8 4 = (true, 0) := by decide +kernel
theorem works_5 : apart 4 wX wY 7 8 5 = (false, 0) := by decide +kernel
end Poly
end Go.Proofs.Yteaccanhahmclaa
