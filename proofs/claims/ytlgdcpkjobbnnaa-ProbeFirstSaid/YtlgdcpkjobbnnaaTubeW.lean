/- The fixed example of chapter 16 is true. -/
import Derived.Test.YtlgdcpkjobbnnaaTubeQ
namespace Go.Proofs.Ytlgdcpkjobbnnaa
open Go.RowKit
namespace Tube
open Kit Plane Path
set_option maxHeartbeats 600000 in
theorem node (t x y h r d : Int) (w : World) : Calls Try.prog 65 #[.int .i64 t, .int .i64 x, .int .i64 y, .int .i64 h, .int .i64 r, .int .i64 d] w fun e w' => e = .returned (.agg #[.int .i64 t, .int .i64 x, .int .i64 y, .int .i64 h, .int .i64 r, .int .i64 d]) ∧ Below w.heap.size w w' := by
  go_enter Try.func65, Try.ntmps65
  go_wp2_with fail
  refine bodyPost_ret (v := .agg #[.int .i64 t, .int .i64 x, .int .i64 y, .int .i64 h, .int .i64 r, .int .i64 d]) (by simp [results, Try.results65, go_sem]) rfl ⟨rfl, b_alloc (Below.refl _ _) _⟩
def wT (k : Nat) : Int := if k = 0 then 0 else 30
def wX (k : Nat) : Int := if k = 0 then 0 else 300
def w0 (_ : Nat) : Int := 0
def wR (k : Nat) : Int := 100 + wid wT 60 k
def wB (_ : Nat) : Int := 5
end Tube
end Go.Proofs.Ytlgdcpkjobbnnaa
