/- The bits of a double, as math and strconv tell them. -/
import Derived.Test.YtoafljgcmloilaaDoorShapes
import Derived.Laws.Externs
namespace Go.Proofs.YtoafljgcmloilaaDoor
open Go.RowKit
namespace Dec
theorem to_bits (b : Nat) (w : World) : (callFunc 15 #[.float .f64 b]).run Tryd.prog w = .ok (.value (.int .u64 b)) w := by
  rw [run_callFunc_extern (e := Extern.MathFloatBits.float64bits) Tryd.func15 (by kernel_rfl) (by kernel_rfl) (by kernel_rfl) (by kernel_rfl)]
  rfl
theorem of_bits (n : Int) (w : World) : (callFunc 18 #[.int .u64 n]).run Tryd.prog w = .ok (.value (.float .f64 n.toNat)) w := by
  rw [run_callFunc_extern (e := Extern.MathFloatBits.float64frombits) Tryd.func18 (by kernel_rfl) (by kernel_rfl) (by kernel_rfl) (by kernel_rfl)]
  rfl
theorem s_bits (b : Nat) (w : World) : (callFunc 50 #[.float .f64 b]).run Tryd.prog w = .ok (.value (.int .u64 b)) w := by
  rw [run_callFunc_extern (e := Extern.MathFloatBits.float64bits) Tryd.func50 (by kernel_rfl) (by kernel_rfl) (by kernel_rfl) (by kernel_rfl)]
  rfl
end Dec
end Go.Proofs.YtoafljgcmloilaaDoor
