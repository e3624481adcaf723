/- What plane.Check and plane.Toward return: each walked once. -/
import Derived.Test.YtokioemmjfjhkaaPlane
namespace Go.Proofs.Ytokioemmjfjhkaa
open Go.RowKit
namespace Plane
open Kit
set_option maxHeartbeats 1000000 in
theorem check (x y : Int) (w : World) : Calls Try.prog 57 #[.agg #[.int .i64 x, .int .i64 y]] w fun e w' => e = .returned (.int .i64 (chk x y)) ∧ Below w.heap.size w w' := by
  by_cases h1 : x < -1000000
  · have H := Lib.hid (chk_bad (x := x) (y := y) (by omega))
    go_enter Try.func57, Try.ntmps57
    go_wp2_with fail
    go_ret
    exact ⟨ret1 H.out.symm, b_alloc (Below.refl _ _) _⟩
  · by_cases h2 : 1000000 < x
    · have H := Lib.hid (chk_bad (x := x) (y := y) (by omega))
      go_enter Try.func57, Try.ntmps57
      go_wp2_with fail
      go_ret
      exact ⟨ret1 H.out.symm, b_alloc (Below.refl _ _) _⟩
    · by_cases h3 : y < -1000000
      · have H := Lib.hid (chk_bad (x := x) (y := y) (by omega))
        go_enter Try.func57, Try.ntmps57
        go_wp2_with fail
        go_ret
        exact ⟨ret1 H.out.symm, b_alloc (Below.refl _ _) _⟩
      · by_cases h4 : 1000000 < y
        · have H := Lib.hid (chk_bad (x := x) (y := y) (by omega))
          go_enter Try.func57, Try.ntmps57
          go_wp2_with fail
          go_ret
          exact ⟨ret1 H.out.symm, b_alloc (Below.refl _ _) _⟩
        · have H := Lib.hid (chk_ok (x := x) (y := y) (by omega))
          go_enter Try.func57, Try.ntmps57
          go_wp2_with fail
          go_ret
          exact ⟨ret1 H.out.symm, b_alloc (Below.refl _ _) _⟩
abbrev Chk (x y r : Int) : Prop := ∀ w : World, Calls Try.prog 57 #[.agg #[.int .i64 x, .int .i64 y]] w fun e w' => e = .returned (.int .i64 r) ∧ Below w.heap.size w w'
end Plane
end Go.Proofs.Ytokioemmjfjhkaa
