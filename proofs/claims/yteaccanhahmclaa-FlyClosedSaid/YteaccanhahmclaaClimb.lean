/- What aircraft.Climb returns. -/
import Derived.Test.YteaccanhahmclaaProfile
import Derived.Test.YteaccanhahmclaaNum
namespace Go.Proofs.Yteaccanhahmclaa
open Go.RowKit
namespace Kind
open Kit Name Num
/-- aircraft.Climb's answer for a type that Check accepts. -/
def climbK (ceil climb desc a b : Int) : Int × Int :=
  if a < 0 ∨ 60000 < a ∨ b < 0 ∨ 60000 < b then (0, 4) else if ceil < a ∨ ceil < b then (0, 20) else if a ≤ b then (du (b - a) climb, dde (b - a) climb) else (du (a - b) desc, dde (a - b) desc)
end Kind
end Go.Proofs.Yteaccanhahmclaa
