/- What num.MulDiv returns where one factor is 1: the quotient, rounded down. -/
import Derived.Test.YtaephikebeaibaaNum
import Derived.Shelf.Bits.Mul64
namespace Go.Proofs.Ytaephikebeaibaa
open Go.RowKit Go.Lib
namespace Num
theorem retu2 {a b c d : Int} (h1 : a = c) (h2 : b = d) : Ending.returned (.tuple #[.int .u64 a, .int .u64 b]) = .returned (.tuple #[.int .u64 c, .int .u64 d]) := by rw [h1, h2]
set_option maxHeartbeats 1000000 in
theorem mul64 (x y : Nat) (hx : x < 18446744073709551616) (hy : y < 18446744073709551616) (w : World) :
    Calls Try.prog 59 #[.int .u64 x, .int .u64 y] w fun e w' => e = .returned (.tuple #[.int .u64 ((x * y / 18446744073709551616 : Nat) : Int), .int .u64 ((x * y % 18446744073709551616 : Nat) : Int)]) ∧ w = w' := by
  obtain ⟨bd, bt, bw, hhi⟩ := Lib.mul64_hi x y hx hy
  have ba := Lib.half_mul_le (a := x / 4294967296) (b := y / 4294967296) (by omega) (by omega)
  have bb := Lib.half_mul_le (a := x / 4294967296) (b := y % 4294967296) (by omega) (by omega)
  have bc := Lib.half_mul_le (a := x % 4294967296) (b := y / 4294967296) (by omega) (by omega)
  have ba' : x / 4294967296 * (y / 4294967296) < 18446744073709551616 := by omega
  have bb' : x / 4294967296 * (y % 4294967296) < 18446744073709551616 := by omega
  have bc' : x % 4294967296 * (y / 4294967296) < 18446744073709551616 := by omega
  have bh1 : x / 4294967296 * (y / 4294967296) + (x / 4294967296 * (y % 4294967296) + x % 4294967296 * (y % 4294967296) / 4294967296) / 4294967296 < 18446744073709551616 := by omega
  have bh : x / 4294967296 * (y / 4294967296) + (x / 4294967296 * (y % 4294967296) + x % 4294967296 * (y % 4294967296) / 4294967296) / 4294967296 + ((x / 4294967296 * (y % 4294967296) + x % 4294967296 * (y % 4294967296) / 4294967296) % 4294967296 + x % 4294967296 * (y / 4294967296)) / 4294967296 < 18446744073709551616 := by omega
  go_enter Try.func59, Try.ntmps59
  go_wp2
  simp only [Mul64.maskN x hx, Mul64.maskN y hy, Mul64.divN, Mul64.mulN, Mul64.addN, Mul64.wrapN _ bd, Mul64.wrapN _ bb', Mul64.wrapN _ bt, Mul64.maskN _ bt, Mul64.wrapN _ bc', Mul64.wrapN _ bw, Mul64.wrapN _ ba', Mul64.wrapN _ bh1, Mul64.wrapN _ bh, Mul64.wrapM (x * y)]
  rw [hhi]
  go_ret2
  exact ⟨rfl, rfl⟩
set_option maxHeartbeats 1000000 in
theorem div64 (x y : Nat) (hx : x < 18446744073709551616) (hy0 : 0 < y) (hy : y < 18446744073709551616) (w : World) :
    Calls Try.prog 60 #[.int .u64 0, .int .u64 x, .int .u64 y] w fun e w' => e = .returned (.tuple #[.int .u64 ((x / y : Nat) : Int), .int .u64 ((x % y : Nat) : Int)]) ∧ ∃ n, w.drewN n = w' := by
  have h1 : ((y : Int) == 0) = false := by rw [beq_eq_false_iff_ne]; omega
  have h2 : ¬ (y : Int) ≤ 0 := by omega
  have h3 : (0 : Int) < (y : Int) := by omega
  have e1 : (x : Int) / (y : Int) = ((x / y : Nat) : Int) := (Int.natCast_ediv x y).symm
  have e2 : (x : Int) % (y : Int) = ((x % y : Nat) : Int) := (Int.natCast_emod x y).symm
  have E1 := Lib.hid e1; have E2 := Lib.hid e2
  clear e1 e2
  go_enter Try.func60, Try.ntmps60
  go_wp2
  go_quiet (fail)
  go_wp2
  go_ret2
  rw [E1.out, E2.out]
  have hle : x / y < 18446744073709551616 := Nat.lt_of_le_of_lt (Nat.div_le_self x y) hx
  exact ⟨retu2 (Mul64.wrapN _ hle) rfl, nq, rfl⟩
set_option maxHeartbeats 1000000 in
theorem md_zero (a b c : Int) (w : World) (hc : c = 0) : Calls Try.prog 44 #[.int .i64 a, .int .i64 b, .int .i64 c] w fun e w' => e = .returned (.tuple #[.int .i64 0, .int .i64 10]) ∧ ∃ n, w.drewN n = w' := by
  subst hc
  go_enter Try.func44, Try.ntmps44
  go_wp2_with fail
  go_ret2
  exact ⟨rfl, 0, rfl⟩
set_option maxHeartbeats 1000000 in
theorem md_plus (a b c A B D N q r : Int) (w : World) (p1 p2 p3 : Bool) (MA : Hid (∀ w : World, Calls Try.prog 53 #[.int .i64 a] w fun e w' => e = .returned (.int .u64 A) ∧ w = w')) (MB : Hid (∀ w : World, Calls Try.prog 53 #[.int .i64 b] w fun e w' => e = .returned (.int .u64 B) ∧ w = w')) (MC : Hid (∀ w : World, Calls Try.prog 53 #[.int .i64 c] w fun e w' => e = .returned (.int .u64 D) ∧ w = w'))
    (MU : Hid (∀ w : World, Calls Try.prog 59 #[.int .u64 A, .int .u64 B] w fun e w' => e = .returned (.tuple #[.int .u64 0, .int .u64 N]) ∧ w = w')) (DI : Hid (∀ w : World, Calls Try.prog 60 #[.int .u64 0, .int .u64 N, .int .u64 D] w fun e w' => e = .returned (.tuple #[.int .u64 q, .int .u64 r]) ∧ ∃ n, w.drewN n = w')) (hc : (c == 0) = false) (hD : 0 < D) (s1 : decide (a < 0) = p1) (s2 : decide (b < 0) = p2) (s3 : decide (c < 0) = p3) (hs : ((p1 != p2) != p3) = false) (hq0 : 0 ≤ q) (hq : q ≤ 9223372036854775807) :
    Calls Try.prog 44 #[.int .i64 a, .int .i64 b, .int .i64 c] w fun e w' => e = .returned (.tuple #[.int .i64 q, .int .i64 0]) ∧ ∃ n, w.drewN n = w' := by
  cases p1 <;> cases p2 <;> cases p3 <;> first | (exfalso; revert hs; decide) | skip
  all_goals
    go_enter Try.func44, Try.ntmps44
    go_wp2_with fail
    refine (MA.out _).mono ?_; rintro e w' ⟨rfl, rfl⟩
    go_wp2_with fail
    refine (MB.out _).mono ?_; rintro e w' ⟨rfl, rfl⟩
    go_wp2_with fail
    refine (MU.out _).mono ?_; rintro e w' ⟨rfl, rfl⟩
    go_wp2_with fail
    refine (MC.out _).mono ?_; rintro e w' ⟨rfl, rfl⟩
    go_wp2_with fail
    refine (DI.out _).mono ?_; rintro e w' ⟨rfl, n, rfl⟩
    go_wp2_with fail
    go_ret2
    exact ⟨rfl, n, rfl⟩
set_option maxHeartbeats 1000000 in
theorem md_large (a b c A B D N q r : Int) (w : World) (p1 p2 p3 : Bool) (MA : Hid (∀ w : World, Calls Try.prog 53 #[.int .i64 a] w fun e w' => e = .returned (.int .u64 A) ∧ w = w')) (MB : Hid (∀ w : World, Calls Try.prog 53 #[.int .i64 b] w fun e w' => e = .returned (.int .u64 B) ∧ w = w')) (MC : Hid (∀ w : World, Calls Try.prog 53 #[.int .i64 c] w fun e w' => e = .returned (.int .u64 D) ∧ w = w'))
    (MU : Hid (∀ w : World, Calls Try.prog 59 #[.int .u64 A, .int .u64 B] w fun e w' => e = .returned (.tuple #[.int .u64 0, .int .u64 N]) ∧ w = w')) (DI : Hid (∀ w : World, Calls Try.prog 60 #[.int .u64 0, .int .u64 N, .int .u64 D] w fun e w' => e = .returned (.tuple #[.int .u64 q, .int .u64 r]) ∧ ∃ n, w.drewN n = w')) (hc : (c == 0) = false) (hD : 0 < D) (s1 : decide (a < 0) = p1) (s2 : decide (b < 0) = p2) (s3 : decide (c < 0) = p3) (hs : ((p1 != p2) != p3) = false) (hq : 9223372036854775807 < q) :
    Calls Try.prog 44 #[.int .i64 a, .int .i64 b, .int .i64 c] w fun e w' => e = .returned (.tuple #[.int .i64 0, .int .i64 2]) ∧ ∃ n, w.drewN n = w' := by
  cases p1 <;> cases p2 <;> cases p3 <;> first | (exfalso; revert hs; decide) | skip
  all_goals
    go_enter Try.func44, Try.ntmps44
    go_wp2_with fail
    refine (MA.out _).mono ?_; rintro e w' ⟨rfl, rfl⟩
    go_wp2_with fail
    refine (MB.out _).mono ?_; rintro e w' ⟨rfl, rfl⟩
    go_wp2_with fail
    refine (MU.out _).mono ?_; rintro e w' ⟨rfl, rfl⟩
    go_wp2_with fail
    refine (MC.out _).mono ?_; rintro e w' ⟨rfl, rfl⟩
    go_wp2_with fail
    refine (DI.out _).mono ?_; rintro e w' ⟨rfl, n, rfl⟩
    go_wp2_with fail
    go_ret2
    exact ⟨rfl, n, rfl⟩
set_option maxHeartbeats 1000000 in
theorem md_null (a b c A B D N q r : Int) (w : World) (p1 p2 p3 : Bool) (MA : Hid (∀ w : World, Calls Try.prog 53 #[.int .i64 a] w fun e w' => e = .returned (.int .u64 A) ∧ w = w')) (MB : Hid (∀ w : World, Calls Try.prog 53 #[.int .i64 b] w fun e w' => e = .returned (.int .u64 B) ∧ w = w')) (MC : Hid (∀ w : World, Calls Try.prog 53 #[.int .i64 c] w fun e w' => e = .returned (.int .u64 D) ∧ w = w'))
    (MU : Hid (∀ w : World, Calls Try.prog 59 #[.int .u64 A, .int .u64 B] w fun e w' => e = .returned (.tuple #[.int .u64 0, .int .u64 N]) ∧ w = w')) (DI : Hid (∀ w : World, Calls Try.prog 60 #[.int .u64 0, .int .u64 N, .int .u64 D] w fun e w' => e = .returned (.tuple #[.int .u64 q, .int .u64 r]) ∧ ∃ n, w.drewN n = w')) (hc : (c == 0) = false) (hD : 0 < D) (s1 : decide (a < 0) = p1) (s2 : decide (b < 0) = p2) (s3 : decide (c < 0) = p3) (hs : ((p1 != p2) != p3) = true) (hN : (N == 0) = true) (hq : q = 0) :
    Calls Try.prog 44 #[.int .i64 a, .int .i64 b, .int .i64 c] w fun e w' => e = .returned (.tuple #[.int .i64 0, .int .i64 0]) ∧ ∃ n, w.drewN n = w' := by
  subst hq
  cases p1 <;> cases p2 <;> cases p3 <;> first | (exfalso; revert hs; decide) | skip
  all_goals
    go_enter Try.func44, Try.ntmps44
    go_wp2_with fail
    refine (MA.out _).mono ?_; rintro e w' ⟨rfl, rfl⟩
    go_wp2_with fail
    refine (MB.out _).mono ?_; rintro e w' ⟨rfl, rfl⟩
    go_wp2_with fail
    refine (MU.out _).mono ?_; rintro e w' ⟨rfl, rfl⟩
    go_wp2_with fail
    refine (MC.out _).mono ?_; rintro e w' ⟨rfl, rfl⟩
    go_wp2_with fail
    refine (DI.out _).mono ?_; rintro e w' ⟨rfl, n, rfl⟩
    go_wp2_with fail
    go_ret2
    exact ⟨rfl, n, rfl⟩
theorem neg_q {q : Int} (h0 : 0 < q) (h1 : q ≤ 9223372036854775808) : IntKind.i64.wrap (IntKind.u64.wrap (-q)) = -q := by
  rw [IntKind.wrap_u64, IntKind.wrap_i64]; omega
theorem neg_q' {q : Int} (h0 : 0 < q) (h1 : q ≤ 9223372036854775808) : wrap64 (IntKind.u64.wrap (-q)) = -q := by
  rw [IntKind.wrap_u64]; unfold wrap64; omega
set_option maxHeartbeats 1000000 in
theorem md_exact (a b c A B D N q r : Int) (w : World) (p1 p2 p3 : Bool) (MA : Hid (∀ w : World, Calls Try.prog 53 #[.int .i64 a] w fun e w' => e = .returned (.int .u64 A) ∧ w = w')) (MB : Hid (∀ w : World, Calls Try.prog 53 #[.int .i64 b] w fun e w' => e = .returned (.int .u64 B) ∧ w = w')) (MC : Hid (∀ w : World, Calls Try.prog 53 #[.int .i64 c] w fun e w' => e = .returned (.int .u64 D) ∧ w = w'))
    (MU : Hid (∀ w : World, Calls Try.prog 59 #[.int .u64 A, .int .u64 B] w fun e w' => e = .returned (.tuple #[.int .u64 0, .int .u64 N]) ∧ w = w')) (DI : Hid (∀ w : World, Calls Try.prog 60 #[.int .u64 0, .int .u64 N, .int .u64 D] w fun e w' => e = .returned (.tuple #[.int .u64 q, .int .u64 r]) ∧ ∃ n, w.drewN n = w')) (hc : (c == 0) = false) (hD : 0 < D) (s1 : decide (a < 0) = p1) (s2 : decide (b < 0) = p2) (s3 : decide (c < 0) = p3) (hs : ((p1 != p2) != p3) = true) (hN : (N == 0) = false) (hr : r = 0) (hq0 : 0 < q) (hqb : (q == 0) = false) (hq : q ≤ 9223372036854775808) :
    Calls Try.prog 44 #[.int .i64 a, .int .i64 b, .int .i64 c] w fun e w' => e = .returned (.tuple #[.int .i64 (-q), .int .i64 0]) ∧ ∃ n, w.drewN n = w' := by
  subst hr
  cases p1 <;> cases p2 <;> cases p3 <;> first | (exfalso; revert hs; decide) | skip
  all_goals
    go_enter Try.func44, Try.ntmps44
    go_wp2_with fail
    refine (MA.out _).mono ?_; rintro e w' ⟨rfl, rfl⟩
    go_wp2_with fail
    refine (MB.out _).mono ?_; rintro e w' ⟨rfl, rfl⟩
    go_wp2_with fail
    refine (MU.out _).mono ?_; rintro e w' ⟨rfl, rfl⟩
    go_wp2_with fail
    refine (MC.out _).mono ?_; rintro e w' ⟨rfl, rfl⟩
    go_wp2_with fail
    refine (DI.out _).mono ?_; rintro e w' ⟨rfl, n, rfl⟩
    go_wp2_with fail
    go_ret2
    exact ⟨by first | exact ret2 (neg_q' hq0 hq) rfl | exact ret2 (neg_q hq0 hq) rfl, n, rfl⟩
set_option maxHeartbeats 1000000 in
theorem md_more (a b c A B D N q r : Int) (w : World) (p1 p2 p3 : Bool) (MA : Hid (∀ w : World, Calls Try.prog 53 #[.int .i64 a] w fun e w' => e = .returned (.int .u64 A) ∧ w = w')) (MB : Hid (∀ w : World, Calls Try.prog 53 #[.int .i64 b] w fun e w' => e = .returned (.int .u64 B) ∧ w = w')) (MC : Hid (∀ w : World, Calls Try.prog 53 #[.int .i64 c] w fun e w' => e = .returned (.int .u64 D) ∧ w = w'))
    (MU : Hid (∀ w : World, Calls Try.prog 59 #[.int .u64 A, .int .u64 B] w fun e w' => e = .returned (.tuple #[.int .u64 0, .int .u64 N]) ∧ w = w')) (DI : Hid (∀ w : World, Calls Try.prog 60 #[.int .u64 0, .int .u64 N, .int .u64 D] w fun e w' => e = .returned (.tuple #[.int .u64 q, .int .u64 r]) ∧ ∃ n, w.drewN n = w')) (hc : (c == 0) = false) (hD : 0 < D) (s1 : decide (a < 0) = p1) (s2 : decide (b < 0) = p2) (s3 : decide (c < 0) = p3) (hs : ((p1 != p2) != p3) = true) (hN : (N == 0) = false) (hr : 0 < r) (hq0 : 0 < q + 1) (hqb : (q + 1 == 0) = false) (hqn : 0 ≤ q) (hq : q + 1 ≤ 9223372036854775808) :
    Calls Try.prog 44 #[.int .i64 a, .int .i64 b, .int .i64 c] w fun e w' => e = .returned (.tuple #[.int .i64 (-(q + 1)), .int .i64 0]) ∧ ∃ n, w.drewN n = w' := by
  cases p1 <;> cases p2 <;> cases p3 <;> first | (exfalso; revert hs; decide) | skip
  all_goals
    go_enter Try.func44, Try.ntmps44
    go_wp2_with fail
    refine (MA.out _).mono ?_; rintro e w' ⟨rfl, rfl⟩
    go_wp2_with fail
    refine (MB.out _).mono ?_; rintro e w' ⟨rfl, rfl⟩
    go_wp2_with fail
    refine (MU.out _).mono ?_; rintro e w' ⟨rfl, rfl⟩
    go_wp2_with fail
    refine (MC.out _).mono ?_; rintro e w' ⟨rfl, rfl⟩
    go_wp2_with fail
    refine (DI.out _).mono ?_; rintro e w' ⟨rfl, n, rfl⟩
    go_wp2_with fail
    go_ret2
    exact ⟨by first | exact ret2 (neg_q' hq0 hq) rfl | exact ret2 (neg_q hq0 hq) rfl, n, rfl⟩
/-- With one factor 1, of a product x: the quotient, rounded down. -/
theorem mulDiv_one (a b c x : Int) (w : World) (ha : -9223372036854775808 ≤ a ∧ a ≤ 9223372036854775807) (hb : -9223372036854775808 ≤ b ∧ b ≤ 9223372036854775807) (hc : -9223372036854775808 ≤ c ∧ c ≤ 9223372036854775807)
    (hx : -9223372036854775808 ≤ x ∧ x ≤ 9223372036854775807) (hab : a.natAbs * b.natAbs = x.natAbs) (hsg : (decide (a < 0) != decide (b < 0)) = decide (x < 0)) :
    Calls Try.prog 44 #[.int .i64 a, .int .i64 b, .int .i64 c] w fun e w' => e = .returned (.tuple #[.int .i64 (dd x c), .int .i64 (dde x c)]) ∧ ∃ n, w.drewN n = w' := by
  by_cases h0 : c = 0
  · rw [(dd_zero h0).1, (dd_zero h0).2]; exact md_zero a b c w h0
  · have MA : ∀ w : World, _ := fun w => magnitude a w ha
    have MB : ∀ w : World, _ := fun w => magnitude b w hb
    have MC : ∀ w : World, _ := fun w => magnitude c w hc
    have hN : x.natAbs ≤ 9223372036854775808 := by omega
    have MU : ∀ w : World, Calls Try.prog 59 #[.int .u64 (a.natAbs : Int), .int .u64 (b.natAbs : Int)] w fun e w' => e = .returned (.tuple #[.int .u64 0, .int .u64 ((x.natAbs : Nat) : Int)]) ∧ w = w' := fun w => by
      have h := mul64 a.natAbs b.natAbs (by omega) (by omega) w
      rw [hab, Nat.div_eq_of_lt (by omega), Nat.mod_eq_of_lt (by omega)] at h
      exact h
    have hD : 0 < c.natAbs := by omega
    have DI : ∀ w : World, _ := fun w => div64 x.natAbs c.natAbs (by omega) hD (by omega) w
    have hcb : (c == 0) = false := by rw [beq_eq_false_iff_ne]; exact h0
    have hq : x.natAbs / c.natAbs ≤ x.natAbs := Nat.div_le_self _ _
    have hdm := Nat.div_add_mod x.natAbs c.natAbs
    have hml := Nat.mod_lt x.natAbs hD
    by_cases hs : ((decide (a < 0) != decide (b < 0)) != decide (c < 0)) = true
    · have hs' : (decide (x < 0) != decide (c < 0)) = true := by rw [← hsg]; exact hs
      have hm1 : ¬ (x = -9223372036854775808 ∧ c = -1) := fun e => by rw [e.1, e.2] at hs'; revert hs'; decide
      rw [(dd_ok h0 hm1).1, (dd_ok h0 hm1).2]
      by_cases hz : x = 0
      · have e0 : fd x c = 0 := by
          subst hz
          rcases Int.lt_or_gt_of_ne h0 with h | h
          · exact fd_eq_neg h (by omega) (by omega)
          · exact fd_eq_pos h (by omega) (by omega)
        rw [e0]
        refine md_null a b c _ _ _ _ _ _ w _ _ _ MA MB MC MU DI hcb (by omega) rfl rfl rfl hs (by subst hz; rfl) ?_
        subst hz
        show ((0 / c.natAbs : Nat) : Int) = 0
        rw [Nat.zero_div]; rfl
      · have hNb : (((x.natAbs : Nat) : Int) == 0) = false := by rw [beq_eq_false_iff_ne]; omega
        have hcase : (x < 0 ∧ 0 < c) ∨ (0 < x ∧ c < 0) := by
          by_cases h1 : x < 0 <;> by_cases h2 : c < 0
          · exfalso; simp [h1, h2] at hs'
          · exact Or.inl ⟨h1, by omega⟩
          · exact Or.inr ⟨by omega, h2⟩
          · exfalso; simp [h1, h2] at hs'
        have hdm' : (c.natAbs : Int) * ((x.natAbs / c.natAbs : Nat) : Int) + ((x.natAbs % c.natAbs : Nat) : Int) = (x.natAbs : Int) := by
          rw [← Int.natCast_mul, ← Int.natCast_add, hdm]
        by_cases hr : x.natAbs % c.natAbs = 0
        · have hq0 : 0 < x.natAbs / c.natAbs := by
            rcases Nat.eq_zero_or_pos (x.natAbs / c.natAbs) with h | h
            · rw [h, hr] at hdm; omega
            · exact h
          have e0 : fd x c = -((x.natAbs / c.natAbs : Nat) : Int) := by
            rw [hr] at hdm'
            rcases hcase with ⟨h1, h2⟩ | ⟨h1, h2⟩
            · have ec : (c.natAbs : Int) = c := by omega
              have ex : (x.natAbs : Int) = -x := by omega
              rw [ec, ex] at hdm'
              refine fd_eq_pos h2 ?_ ?_ <;> (rw [Int.mul_neg]; generalize c * ((x.natAbs / c.natAbs : Nat) : Int) = t at *; omega)
            · have ec : (c.natAbs : Int) = -c := by omega
              have ex : (x.natAbs : Int) = x := by omega
              rw [ec, ex, Int.neg_mul] at hdm'
              refine fd_eq_neg h2 ?_ ?_ <;> (rw [Int.mul_neg]; generalize c * ((x.natAbs / c.natAbs : Nat) : Int) = t at *; omega)
          rw [e0]
          exact md_exact a b c _ _ _ _ _ _ w _ _ _ MA MB MC MU DI hcb (by omega) rfl rfl rfl hs hNb (by rw [hr]; rfl) (by omega) (by rw [beq_eq_false_iff_ne]; omega) (by omega)
        · have e0 : fd x c = -(((x.natAbs / c.natAbs : Nat) : Int) + 1) := by
            rcases hcase with ⟨h1, h2⟩ | ⟨h1, h2⟩
            · have ec : (c.natAbs : Int) = c := by omega
              have ex : (x.natAbs : Int) = -x := by omega
              rw [ex] at hdm'
              refine fd_eq_pos h2 ?_ ?_ <;> (rw [Int.mul_neg, Int.mul_add, Int.mul_one]; rw [ec] at hdm'; generalize c * ((x.natAbs / c.natAbs : Nat) : Int) = t at *; omega)
            · have ec : (c.natAbs : Int) = -c := by omega
              have ex : (x.natAbs : Int) = x := by omega
              rw [ec, ex, Int.neg_mul] at hdm'
              refine fd_eq_neg h2 ?_ ?_ <;> (rw [Int.mul_neg, Int.mul_add, Int.mul_one]; generalize c * ((x.natAbs / c.natAbs : Nat) : Int) = t at *; omega)
          have hq2 : x.natAbs / c.natAbs + 1 ≤ 9223372036854775808 := by
            rcases Nat.lt_or_ge (x.natAbs / c.natAbs) 9223372036854775808 with h | h
            · omega
            · exfalso
              have h1 : x.natAbs / c.natAbs = 9223372036854775808 := by omega
              have h2 : c.natAbs * (x.natAbs / c.natAbs) ≥ 1 * (x.natAbs / c.natAbs) := Nat.mul_le_mul_right _ hD
              omega
          rw [e0]
          clear hdm hdm' e0 hq
          generalize x.natAbs / c.natAbs = Q at *
          exact md_more a b c _ _ _ _ _ _ w _ _ _ MA MB MC MU DI hcb (by omega) rfl rfl rfl hs hNb (by omega) (by omega) (by rw [beq_eq_false_iff_ne]; omega) (by omega) (by omega)
    · have hs0 : ((decide (a < 0) != decide (b < 0)) != decide (c < 0)) = false := by simpa using hs
      have hs' : (decide (x < 0) != decide (c < 0)) = false := by rw [← hsg]; exact hs0
      have hcase : (x < 0 ∧ c < 0) ∨ (0 ≤ x ∧ 0 < c) := by
        by_cases h1 : x < 0 <;> by_cases h2 : c < 0
        · exact Or.inl ⟨h1, h2⟩
        · exfalso; simp [h1, h2] at hs'
        · exfalso; simp [h1, h2] at hs'
        · exact Or.inr ⟨by omega, by omega⟩
      have hf : fd x c = ((x.natAbs / c.natAbs : Nat) : Int) := by
        rw [Int.natCast_ediv]
        rcases hcase with ⟨h1, h2⟩ | ⟨h1, h2⟩
        · rw [fd_neg h2, show ((x.natAbs : Nat) : Int) = -x from by omega, show ((c.natAbs : Nat) : Int) = -c from by omega]
        · rw [fd_pos h2, show ((x.natAbs : Nat) : Int) = x from by omega, show ((c.natAbs : Nat) : Int) = c from by omega]
      by_cases hm1 : x = -9223372036854775808 ∧ c = -1
      · rw [(dd_min hm1.1 hm1.2).1, (dd_min hm1.1 hm1.2).2]
        refine md_large a b c _ _ _ _ _ _ w _ _ _ MA MB MC MU DI hcb (by omega) rfl rfl rfl hs0 ?_
        have e1 : x.natAbs = 9223372036854775808 := by omega
        have e2 : c.natAbs = 1 := by omega
        rw [e1, e2]; decide
      · rw [(dd_ok h0 hm1).1, (dd_ok h0 hm1).2, hf]
        have hb := fd_bd hx h0 hm1
        rw [hf] at hb
        exact md_plus a b c _ _ _ _ _ _ w _ _ _ MA MB MC MU DI hcb (by omega) rfl rfl rfl hs0 (Int.natCast_nonneg _) hb.2
end Num
end Go.Proofs.Ytaephikebeaibaa
