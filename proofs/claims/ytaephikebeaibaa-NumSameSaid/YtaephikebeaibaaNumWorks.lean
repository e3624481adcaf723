/- numWorks, the fixed example of chapter 1, answers true. -/
import Derived.Test.YtaephikebeaibaaNum
namespace Go.Proofs.Ytaephikebeaibaa
open Go.RowKit
namespace Num
theorem dd_lit : dd (-7) 2 = -4 ∧ dde (-7) 2 = 0 ∧ du (-7) 2 = -3 ∧ btw 9 1 5 = 5 := by decide
theorem gcd_lit : wrap64 (Nat.gcd (Int.natAbs (-12)) (Int.natAbs 18) : Nat) = 6 := by decide +kernel
set_option maxHeartbeats 1000000 in
theorem numWorks (w : World) : Calls Try.prog 29 #[] w fun e w' => e = .returned (.bool true) ∧ ∃ n, w.drewN n = w' := by
  have c1 : ∀ w : World, Calls Try.prog 30 #[.int .i64 (-7), .int .i64 2] w fun e w' => e = .returned (.tuple #[.int .i64 (-4), .int .i64 0]) ∧ w = w' := fun w => by
    have h := divDown (-7) 2 w (by omega) (by omega); rw [dd_lit.1, dd_lit.2.1] at h; exact h
  have c2 : ∀ w : World, Calls Try.prog 31 #[.int .i64 (-7), .int .i64 2] w fun e w' => e = .returned (.tuple #[.int .i64 (-3), .int .i64 0]) ∧ w = w' := fun w => by
    have h := divUp (-7) 2 w (by omega) (by omega); rw [dd_lit.2.2.1, dd_lit.2.1] at h; exact h
  have c3 : ∀ w : World, Calls Try.prog 32 #[.int .i64 (-12), .int .i64 18] w fun e w' => e = .returned (.int .i64 6) ∧ ∃ n, w.drewN n = w' := fun w => by
    have h := gcd (-12) 18 w (by omega) (by omega); rw [gcd_lit] at h; exact h
  have c4 : ∀ w : World, Calls Try.prog 52 #[.int .i64 9, .int .i64 1, .int .i64 5] w fun e w' => e = .returned (.int .i64 5) ∧ w = w' := fun w => by
    have h := between 9 1 5 w; rw [dd_lit.2.2.2] at h; exact h
  have C1 := Lib.hid c1; have C2 := Lib.hid c2; have C3 := Lib.hid c3; have C4 := Lib.hid c4
  clear c1 c2 c3 c4
  go_enter Try.func29, Try.ntmps29
  go_wp2_with fail
  refine (C1.out _).mono ?_; rintro e w' ⟨rfl, rfl⟩
  go_wp2_with fail
  refine (C2.out _).mono ?_; rintro e w' ⟨rfl, rfl⟩
  go_wp2_with fail
  refine (C3.out _).mono ?_; rintro e w' ⟨rfl, n, rfl⟩
  go_wp2_with fail
  refine (C4.out _).mono ?_; rintro e w' ⟨rfl, rfl⟩
  go_wp2_with fail
  go_ret
  exact ⟨rfl, n, rfl⟩
end Num
end Go.Proofs.Ytaephikebeaibaa
