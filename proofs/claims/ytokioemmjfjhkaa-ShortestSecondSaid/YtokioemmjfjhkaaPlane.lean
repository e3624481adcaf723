/- What the functions of package plane return: each walked once. -/
import Derived.Test.YtokioemmjfjhkaaNum
import Derived.Test.YtokioemmjfjhkaaPlaneP
import Derived.Test.YtokioemmjfjhkaaKit
import Derived.Test.YtokioemmjfjhkaaFrame
namespace Go.Proofs.Ytokioemmjfjhkaa
open Go.RowKit
namespace Plane
open Kit
set_option maxHeartbeats 400000 in
theorem sub (ax ay bx by' : Int) (w : World) :
    Calls Try.prog 85 #[.agg #[.int .i64 ax, .int .i64 ay], .agg #[.int .i64 bx, .int .i64 by']] w fun e w' => e = .returned (.agg #[.int .i64 (wrap64 (ax - bx)), .int .i64 (wrap64 (ay - by'))]) ∧ Below w.heap.size w w' := by
  go_enter Try.func85, Try.ntmps85
  go_wp2
  exact bodyPost_ret (v := .agg #[.int .i64 (wrap64 (ax - bx)), .int .i64 (wrap64 (ay - by'))]) (by simp [results, Try.results85, go_sem]) rfl ⟨rfl, b_alloc (b_alloc (b_alloc (Below.refl _ _) _) _) _⟩
set_option maxHeartbeats 400000 in
theorem dot (ax ay bx by' : Int) (w : World) :
    Calls Try.prog 86 #[.agg #[.int .i64 ax, .int .i64 ay], .agg #[.int .i64 bx, .int .i64 by']] w fun e w' => e = .returned (.int .i64 (wrap64 (wrap64 (ax * bx) + wrap64 (ay * by')))) ∧ Below w.heap.size w w' := by
  go_enter Try.func86, Try.ntmps86
  go_wp2
  go_ret
  exact ⟨rfl, b_alloc (b_alloc (Below.refl _ _) _) _⟩
set_option maxHeartbeats 400000 in
theorem square_any (ax ay bx by' : Int) (w : World) :
    Calls Try.prog 65 #[.agg #[.int .i64 ax, .int .i64 ay], .agg #[.int .i64 bx, .int .i64 by']] w fun e w' => e = .returned (.int .i64 (wrap64 (wrap64 (wrap64 (ax - bx) * wrap64 (ax - bx)) + wrap64 (wrap64 (ay - by') * wrap64 (ay - by'))))) ∧ Below w.heap.size w w' := by
  go_enter Try.func65, Try.ntmps65
  go_wp2_with fail
  refine (sub ax ay bx by' _).mono ?_; rintro e w1 ⟨rfl, hb⟩
  go_wp2_with fail
  refine (dot _ _ _ _ _).mono ?_; rintro e w2 ⟨rfl, hb2⟩
  go_wp2_with fail
  go_ret
  exact ⟨rfl, b_next (b_alloc (b_next (b_alloc (b_alloc (Below.refl _ _) _) _) hb) _) hb2⟩
theorem square (ax ay bx by' : Int) (w : World) {M : Int} (hM : M = 1000000000) (h : (-M ≤ ax ∧ ax ≤ M) ∧ (-M ≤ ay ∧ ay ≤ M) ∧ (-M ≤ bx ∧ bx ≤ M) ∧ (-M ≤ by' ∧ by' ≤ M)) :
    Calls Try.prog 65 #[.agg #[.int .i64 ax, .int .i64 ay], .agg #[.int .i64 bx, .int .i64 by']] w fun e w' => e = .returned (.int .i64 (sqr ax ay bx by')) ∧ Below w.heap.size w w' := by
  have c := square_any ax ay bx by' w
  rw [(sqr_wrap hM h).1] at c
  exact c
set_option maxHeartbeats 1000000 in
theorem rootC (n : Int) (w : World) (hn : -9223372036854775808 ≤ n ∧ n ≤ 9223372036854775807) :
    Calls Try.prog 66 #[.int .i64 n] w fun e w' => e = .returned (.int .i64 (root n)) ∧ w = w' := by
  by_cases h0 : n ≤ 0
  · have hr : root n = 0 := by unfold root; rw [Int.toNat_of_nonpos h0]; rfl
    have HR := Lib.hid hr; clear hr
    go_enter Try.func66, Try.ntmps66
    go_wp2
    go_ret
    exact ⟨ret1 HR.out.symm, rfl⟩
  · go_enter Try.func66, Try.ntmps66
    go_wp2
    go_loop [3, 4] (fun l h => ∃ lo hi : Int, 0 ≤ lo ∧ lo ≤ hi ∧ hi ≤ 3037000499 ∧ lo * lo ≤ n ∧ n < (hi + 1) * (hi + 1) ∧ l = .int .i64 lo ∧ h = .int .i64 hi) (fun l h => (intOf h - intOf l).toNat)
    case atStart => exact ⟨0, 3037000499, by omega, by omega, by omega, by omega, by omega, rfl, rfl⟩
    case round =>
      obtain ⟨lo, hi, h1, h2, h3, h4, h5, rfl, rfl⟩ := hrel
      by_cases hlt : lo < hi
      · have hm : lo + 1 ≤ lo + (hi - lo + 1) / 2 ∧ lo + (hi - lo + 1) / 2 ≤ hi := by omega
        have hmm : (lo + (hi - lo + 1) / 2) * (lo + (hi - lo + 1) / 2) ≤ 9223372036854775807 ∧ 0 ≤ (lo + (hi - lo + 1) / 2) * (lo + (hi - lo + 1) / 2) := by
          have := sq_le_of (x := lo + (hi - lo + 1) / 2) (M := 3037000499) (by omega)
          have := sq_nonneg (lo + (hi - lo + 1) / 2)
          generalize (lo + (hi - lo + 1) / 2) * (lo + (hi - lo + 1) / 2) = t at *
          omega
        by_cases hc : (lo + (hi - lo + 1) / 2) * (lo + (hi - lo + 1) / 2) ≤ n
        · go_wp2
          go_round
          case rel => exact ⟨_, _, by omega, hm.2, h3, hc, h5, rfl, rfl⟩
          case measure => simp [intOf]; omega
        · go_wp2
          go_round
          case rel => exact ⟨_, _, h1, by omega, by omega, h4, by rw [show lo + (hi - lo + 1) / 2 - 1 + 1 = lo + (hi - lo + 1) / 2 from by omega]; omega, rfl, rfl⟩
          case measure => simp [intOf]; omega
      · have he : lo = hi := by omega
        have hr : root n = lo := root_unique h1 h4 (by rw [he]; exact h5)
        have HR := Lib.hid hr; clear hr he
        go_wp2
        go_ret
        exact ⟨ret1 HR.out.symm, rfl⟩
set_option maxHeartbeats 1000000 in
theorem distance (ax ay bx by' : Int) (w : World) {M : Int} (hM : M = 1000000000) (h : (-M ≤ ax ∧ ax ≤ M) ∧ (-M ≤ ay ∧ ay ≤ M) ∧ (-M ≤ bx ∧ bx ≤ M) ∧ (-M ≤ by' ∧ by' ≤ M)) :
    Calls Try.prog 43 #[.agg #[.int .i64 ax, .int .i64 ay], .agg #[.int .i64 bx, .int .i64 by']] w fun e w' => e = .returned (.tuple #[.int .i64 (root (sqr ax ay bx by')), .int .i64 (dup (sqr ax ay bx by'))]) ∧ Below w.heap.size w w' := by
  have hs := (sqr_wrap hM h).2
  have hs0 := sqr_nonneg ax ay bx by'
  have c := fun w => square ax ay bx by' w hM h
  generalize sqr ax ay bx by' = s at *
  obtain ⟨r0, r1, _⟩ := root_spec hs0
  have r2 := root_le (n := s) (by omega)
  have C := Lib.hid c
  clear c h hM
  by_cases hlt : root s * root s < s
  · have hd : dup s = root s + 1 := if_pos hlt
    have HD := Lib.hid hd; clear hd
    have r3 : root s * root s ≤ 8000000000000000000 ∧ 0 ≤ root s * root s := ⟨by omega, sq_nonneg _⟩
    go_enter Try.func43, Try.ntmps43
    go_wp2_with fail
    refine (C.out _).mono ?_; rintro e w1 ⟨rfl, hb⟩
    go_wp2_with fail
    refine (rootC s _ (by omega)).mono ?_; rintro e w2 ⟨rfl, rfl⟩
    go_wp2_with fail
    go_ret2
    exact ⟨ret2 rfl HD.out.symm, b_next (b_alloc (b_alloc (Below.refl _ _) _) _) hb⟩
  · have hd : dup s = root s := if_neg hlt
    have HD := Lib.hid hd; clear hd
    have r3 : root s * root s ≤ 8000000000000000000 ∧ 0 ≤ root s * root s := ⟨by omega, sq_nonneg _⟩
    go_enter Try.func43, Try.ntmps43
    go_wp2_with fail
    refine (C.out _).mono ?_; rintro e w1 ⟨rfl, hb⟩
    go_wp2_with fail
    refine (rootC s _ (by omega)).mono ?_; rintro e w2 ⟨rfl, rfl⟩
    go_wp2_with fail
    go_ret2
    exact ⟨ret2 rfl HD.out.symm, b_next (b_alloc (b_alloc (Below.refl _ _) _) _) hb⟩
end Plane
end Go.Proofs.Ytokioemmjfjhkaa
