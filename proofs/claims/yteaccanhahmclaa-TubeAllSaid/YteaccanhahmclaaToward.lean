/- What plane.Check and plane.Toward return: each walked once. -/
import Derived.Test.YteaccanhahmclaaPlane
namespace Go.Proofs.Yteaccanhahmclaa
open Go.RowKit
namespace Plane
open Kit
set_option maxHeartbeats 1000000 in
theorem check (x y : Int) (w : World) : Calls Try.prog 85 #[.agg #[.int .i64 x, .int .i64 y]] w fun e w' => e = .returned (.int .i64 (chk x y)) ∧ Below w.heap.size w w' := by
  by_cases h1 : x < -1000000
  · have H := Lib.hid (chk_bad (x := x) (y := y) (by omega))
    go_enter Try.func85, Try.ntmps85
    go_wp2_with fail
    go_ret
    exact ⟨ret1 H.out.symm, b_alloc (Below.refl _ _) _⟩
  · by_cases h2 : 1000000 < x
    · have H := Lib.hid (chk_bad (x := x) (y := y) (by omega))
      go_enter Try.func85, Try.ntmps85
      go_wp2_with fail
      go_ret
      exact ⟨ret1 H.out.symm, b_alloc (Below.refl _ _) _⟩
    · by_cases h3 : y < -1000000
      · have H := Lib.hid (chk_bad (x := x) (y := y) (by omega))
        go_enter Try.func85, Try.ntmps85
        go_wp2_with fail
        go_ret
        exact ⟨ret1 H.out.symm, b_alloc (Below.refl _ _) _⟩
      · by_cases h4 : 1000000 < y
        · have H := Lib.hid (chk_bad (x := x) (y := y) (by omega))
          go_enter Try.func85, Try.ntmps85
          go_wp2_with fail
          go_ret
          exact ⟨ret1 H.out.symm, b_alloc (Below.refl _ _) _⟩
        · have H := Lib.hid (chk_ok (x := x) (y := y) (by omega))
          go_enter Try.func85, Try.ntmps85
          go_wp2_with fail
          go_ret
          exact ⟨ret1 H.out.symm, b_alloc (Below.refl _ _) _⟩
abbrev Chk (x y r : Int) : Prop := ∀ w : World, Calls Try.prog 85 #[.agg #[.int .i64 x, .int .i64 y]] w fun e w' => e = .returned (.int .i64 r) ∧ Below w.heap.size w w'
abbrev Dv (a b q : Int) : Prop := ∀ w : World, Calls Try.prog 136 #[.int .i64 a, .int .i64 b] w fun e w' => e = .returned (.tuple #[.int .i64 q, .int .i64 0]) ∧ w = w'
theorem dv (a b : Int) (ha : -9223372036854775808 ≤ a ∧ a ≤ 9223372036854775807) (hb : 0 < b ∧ b ≤ 9223372036854775807) : Dv a b (a / b) := fun w => by
  have c := Num.divDown a b w ha (by omega)
  rw [(Num.dd_ok (by omega) (by omega)).1, (Num.dd_ok (by omega) (by omega)).2, Num.fd_pos hb.1] at c
  exact c
set_option maxHeartbeats 2000000 in
theorem toward_ok (ax ay bx by' n d : Int) (w : World) (h0 : 0 < d) (h1 : d ≤ 200000) (h2 : 0 ≤ n) (h3 : n ≤ d) (ga : good ax ay) (gb : good bx by') :
    Calls Try.prog 135 #[.agg #[.int .i64 ax, .int .i64 ay], .agg #[.int .i64 bx, .int .i64 by'], .int .i64 n, .int .i64 d] w fun e w' => e = .returned (.tuple #[.agg #[.int .i64 (tw ax bx n d), .int .i64 (tw ay by' n d)], .int .i64 0]) ∧ Below w.heap.size w w' := by
  have C1 : Hid (Chk ax ay 0) := fun w => by have c := check ax ay w; rw [chk_ok ga] at c; exact c
  have C2 : Hid (Chk bx by' 0) := fun w => by have c := check bx by' w; rw [chk_ok gb] at c; exact c
  have m1 := mul_bd (x := bx - ax) (y := n) (M := 2000000) (N := 200000) (by omega) (by omega)
  have m2 := mul_bd (x := by' - ay) (y := n) (M := 2000000) (N := 200000) (by omega) (by omega)
  have D1 : Hid (Dv ((bx - ax) * n) d ((bx - ax) * n / d)) := dv _ _ (by omega) (by omega)
  have D2 : Hid (Dv ((by' - ay) * n) d ((by' - ay) * n / d)) := dv _ _ (by omega) (by omega)
  have q1 := Num.fd_bd (a := (bx - ax) * n) (b := d) (by omega) (by omega) (by omega)
  have q2 := Num.fd_bd (a := (by' - ay) * n) (b := d) (by omega) (by omega) (by omega)
  have q3 : -400000000000 ≤ (bx - ax) * n / d ∧ (bx - ax) * n / d ≤ 400000000000 :=
    ⟨(Int.le_ediv_iff_mul_le h0).2 (by have := Int.mul_le_mul_of_nonneg_left (show (1 : Int) ≤ d by omega) (show (0 : Int) ≤ 400000000000 by omega); omega), by
      have := Int.ediv_lt_iff_lt_mul (a := (bx - ax) * n) (b := 400000000001) h0
      have e : (bx - ax) * n < 400000000001 * d := by omega
      have := this.2 e; omega⟩
  have q4 : -400000000000 ≤ (by' - ay) * n / d ∧ (by' - ay) * n / d ≤ 400000000000 :=
    ⟨(Int.le_ediv_iff_mul_le h0).2 (by have := Int.mul_le_mul_of_nonneg_left (show (1 : Int) ≤ d by omega) (show (0 : Int) ≤ 400000000000 by omega); omega), by
      have := Int.ediv_lt_iff_lt_mul (a := (by' - ay) * n) (b := 400000000001) h0
      have e : (by' - ay) * n < 400000000001 * d := by omega
      have := this.2 e; omega⟩
  clear q1 q2
  unfold tw
  generalize (bx - ax) * n / d = Q1 at *
  generalize (by' - ay) * n / d = Q2 at *
  go_enter Try.func135, Try.ntmps135
  go_wp2_with fail
  refine (C1.out _).mono ?_; rintro e w1 ⟨rfl, hb⟩
  have hw := b_next (b_alloc (b_alloc (b_alloc (Below.refl _ w) _) _) _) hb
  have pa := p2_keep hb (p2_alloc _ (p2_alloc _ (p2_new w _ ax ay)))
  have pb := p2_keep hb (p2_alloc _ (p2_new1 w _ _ bx by'))
  have pr := b2_keep hb (b2_new2 w _ _ _ 0 0)
  clear hb
  go_wp2_with fail
  refine (C2.out _).mono ?_; rintro e w2 ⟨rfl, hb⟩
  replace hw := b_next hw hb
  replace pa := p2_keep hb pa; replace pb := p2_keep hb pb; replace pr := b2_keep hb pr
  clear hb
  go_wp2_with fail
  refine (D1.out _).mono ?_; rintro e w3 ⟨rfl, rfl⟩
  go_wp2_with fail
  refine (D2.out _).mono ?_; rintro e w3 ⟨rfl, rfl⟩
  go_wp2_with fail
  have hr := b2_set1 (ay + Q2) (b2_set0 (ax + Q1) pr)
  refine bodyPost_ret (v := .tuple #[.agg #[.int .i64 (ax + Q1), .int .i64 (ay + Q2)], .int .i64 0]) ?_ rfl ⟨rfl, b_set (b_set hw (by simp; omega) _) (by simp; omega) _⟩
  simp [results, Try.results135, go_sem, hr.1.1, hr.1.2]
set_option maxHeartbeats 2000000 in
theorem toward_far (ax ay bx by' n d : Int) (w : World) (h0 : 0 < d) (h1 : d ≤ 200000) (h2 : 0 ≤ n) (h3 : n ≤ d) (hg : ¬ (good ax ay ∧ good bx by')) :
    Calls Try.prog 135 #[.agg #[.int .i64 ax, .int .i64 ay], .agg #[.int .i64 bx, .int .i64 by'], .int .i64 n, .int .i64 d] w fun e w' => e = .returned (.tuple #[.agg #[.int .i64 0, .int .i64 0], .int .i64 4]) ∧ Below w.heap.size w w' := by
  by_cases ga : good ax ay
  · have gb : ¬ good bx by' := fun h => hg ⟨ga, h⟩
    have C1 : Hid (Chk ax ay 0) := fun w => by have c := check ax ay w; rw [chk_ok ga] at c; exact c
    have C2 : Hid (Chk bx by' 4) := fun w => by have c := check bx by' w; rw [chk_bad gb] at c; exact c
    clear ga gb hg
    go_enter Try.func135, Try.ntmps135
    go_wp2_with fail
    refine (C1.out _).mono ?_; rintro e w1 ⟨rfl, hb⟩
    have hw := b_next (b_alloc (b_alloc (b_alloc (Below.refl _ w) _) _) _) hb
    have pb := p2_keep hb (p2_alloc _ (p2_new1 w _ _ bx by'))
    have pr := b2_keep hb (b2_new2 w _ _ _ 0 0)
    clear hb
    go_wp2_with fail
    refine (C2.out _).mono ?_; rintro e w2 ⟨rfl, hb⟩
    replace hw := b_next hw hb
    replace pb := p2_keep hb pb; replace pr := b2_keep hb pr
    clear hb
    go_wp2_with fail
    refine (C2.out _).mono ?_; rintro e w2 ⟨rfl, hb⟩
    replace hw := b_next hw hb
    replace pr := b2_keep hb pr
    clear hb pb
    go_wp2_with fail
    have hr := b2_set1 0 (b2_set0 0 pr)
    refine bodyPost_ret (v := .tuple #[.agg #[.int .i64 0, .int .i64 0], .int .i64 4]) ?_ rfl ⟨rfl, b_set (b_set hw (by simp; omega) _) (by simp; omega) _⟩
    simp [results, Try.results135, go_sem, hr.1.1, hr.1.2]
  · have C1 : Hid (Chk ax ay 4) := fun w => by have c := check ax ay w; rw [chk_bad ga] at c; exact c
    clear ga hg
    go_enter Try.func135, Try.ntmps135
    go_wp2_with fail
    refine (C1.out _).mono ?_; rintro e w1 ⟨rfl, hb⟩
    have hw := b_next (b_alloc (b_alloc (b_alloc (Below.refl _ w) _) _) _) hb
    have pa := p2_keep hb (p2_alloc _ (p2_alloc _ (p2_new w _ ax ay)))
    have pr := b2_keep hb (b2_new2 w _ _ _ 0 0)
    clear hb
    go_wp2_with fail
    refine (C1.out _).mono ?_; rintro e w2 ⟨rfl, hb⟩
    replace hw := b_next hw hb
    replace pr := b2_keep hb pr
    clear hb pa
    go_wp2_with fail
    have hr := b2_set1 0 (b2_set0 0 pr)
    refine bodyPost_ret (v := .tuple #[.agg #[.int .i64 0, .int .i64 0], .int .i64 4]) ?_ rfl ⟨rfl, b_set (b_set hw (by simp; omega) _) (by simp; omega) _⟩
    simp [results, Try.results135, go_sem, hr.1.1, hr.1.2]
end Plane
end Go.Proofs.Yteaccanhahmclaa
