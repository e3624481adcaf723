/- What plane.Check and plane.Toward return: each walked once. -/
import Derived.Test.YtddlacjjanincaaDoorPlane
namespace Go.Proofs.YtddlacjjanincaaDoor
open Go.RowKit
namespace Plane
open Kit
abbrev Dv (a b q : Int) : Prop := ∀ w : World, Calls Tryd.prog 41 #[.int .i64 a, .int .i64 b] w fun e w' => e = .returned (.tuple #[.int .i64 q, .int .i64 0]) ∧ w = w'
theorem dv (a b : Int) (ha : -9223372036854775808 ≤ a ∧ a ≤ 9223372036854775807) (hb : 0 < b ∧ b ≤ 9223372036854775807) : Dv a b (a / b) := fun w => by
  have c := Num.divDown a b w ha (by omega)
  rw [(Num.dd_ok (by omega) (by omega)).1, (Num.dd_ok (by omega) (by omega)).2, Num.fd_pos hb.1] at c
  exact c
end Plane
end Go.Proofs.YtddlacjjanincaaDoor
