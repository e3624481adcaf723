/- What the functions of package plane return: each walked once. -/
import Derived.Test.YteaccanhahmclaaNum
import Derived.Test.YteaccanhahmclaaPlaneP
import Derived.Test.YteaccanhahmclaaKit
import Derived.Test.YteaccanhahmclaaFrame
namespace Go.Proofs.Yteaccanhahmclaa
open Go.RowKit
namespace Plane
open Kit
set_option maxHeartbeats 400000 in
theorem sub (ax ay bx by' : Int) (w : World) :
    Calls Try.prog 166 #[.agg #[.int .i64 ax, .int .i64 ay], .agg #[.int .i64 bx, .int .i64 by']] w fun e w' => e = .returned (.agg #[.int .i64 (wrap64 (ax - bx)), .int .i64 (wrap64 (ay - by'))]) ∧ Below w.heap.size w w' := by
  go_enter Try.func166, Try.ntmps166
  go_wp2
  exact bodyPost_ret (v := .agg #[.int .i64 (wrap64 (ax - bx)), .int .i64 (wrap64 (ay - by'))]) (by simp [results, Try.results166, go_sem]) rfl ⟨rfl, b_alloc (b_alloc (b_alloc (Below.refl _ _) _) _) _⟩
set_option maxHeartbeats 400000 in
theorem dot (ax ay bx by' : Int) (w : World) :
    Calls Try.prog 167 #[.agg #[.int .i64 ax, .int .i64 ay], .agg #[.int .i64 bx, .int .i64 by']] w fun e w' => e = .returned (.int .i64 (wrap64 (wrap64 (ax * bx) + wrap64 (ay * by')))) ∧ Below w.heap.size w w' := by
  go_enter Try.func167, Try.ntmps167
  go_wp2
  go_ret
  exact ⟨rfl, b_alloc (b_alloc (Below.refl _ _) _) _⟩
set_option maxHeartbeats 400000 in
theorem cross (ax ay bx by' : Int) (w : World) :
    Calls Try.prog 181 #[.agg #[.int .i64 ax, .int .i64 ay], .agg #[.int .i64 bx, .int .i64 by']] w fun e w' => e = .returned (.int .i64 (wrap64 (wrap64 (ax * by') - wrap64 (ay * bx)))) ∧ Below w.heap.size w w' := by
  go_enter Try.func181, Try.ntmps181
  go_wp2
  go_ret
  exact ⟨rfl, b_alloc (b_alloc (Below.refl _ _) _) _⟩
set_option maxHeartbeats 400000 in
theorem square_any (ax ay bx by' : Int) (w : World) :
    Calls Try.prog 122 #[.agg #[.int .i64 ax, .int .i64 ay], .agg #[.int .i64 bx, .int .i64 by']] w fun e w' => e = .returned (.int .i64 (wrap64 (wrap64 (wrap64 (ax - bx) * wrap64 (ax - bx)) + wrap64 (wrap64 (ay - by') * wrap64 (ay - by'))))) ∧ Below w.heap.size w w' := by
  go_enter Try.func122, Try.ntmps122
  go_wp2_with fail
  refine (sub ax ay bx by' _).mono ?_; rintro e w1 ⟨rfl, hb⟩
  go_wp2_with fail
  refine (dot _ _ _ _ _).mono ?_; rintro e w2 ⟨rfl, hb2⟩
  go_wp2_with fail
  go_ret
  exact ⟨rfl, b_next (b_alloc (b_next (b_alloc (b_alloc (Below.refl _ _) _) _) hb) _) hb2⟩
theorem square (ax ay bx by' : Int) (w : World) {M : Int} (hM : M = 1000000000) (h : (-M ≤ ax ∧ ax ≤ M) ∧ (-M ≤ ay ∧ ay ≤ M) ∧ (-M ≤ bx ∧ bx ≤ M) ∧ (-M ≤ by' ∧ by' ≤ M)) :
    Calls Try.prog 122 #[.agg #[.int .i64 ax, .int .i64 ay], .agg #[.int .i64 bx, .int .i64 by']] w fun e w' => e = .returned (.int .i64 (sqr ax ay bx by')) ∧ Below w.heap.size w w' := by
  have c := square_any ax ay bx by' w
  rw [(sqr_wrap hM h).1] at c
  exact c
set_option maxHeartbeats 1000000 in
theorem rootC (n : Int) (w : World) (hn : -9223372036854775808 ≤ n ∧ n ≤ 9223372036854775807) :
    Calls Try.prog 123 #[.int .i64 n] w fun e w' => e = .returned (.int .i64 (root n)) ∧ w = w' := by
  by_cases h0 : n ≤ 0
  · have hr : root n = 0 := by unfold root; rw [Int.toNat_of_nonpos h0]; rfl
    have HR := Lib.hid hr; clear hr
    go_enter Try.func123, Try.ntmps123
    go_wp2
    go_ret
    exact ⟨ret1 HR.out.symm, rfl⟩
  · go_enter Try.func123, Try.ntmps123
    go_wp2
    go_loop [3, 4] (fun l h => ∃ lo hi : Int, 0 ≤ lo ∧ lo ≤ hi ∧ hi ≤ 3037000499 ∧ lo * lo ≤ n ∧ n < (hi + 1) * (hi + 1) ∧ l = .int .i64 lo ∧ h = .int .i64 hi) (fun l h => (intOf h - intOf l).toNat)
    case atStart => exact ⟨0, 3037000499, by omega, by omega, by omega, by omega, by omega, rfl, rfl⟩
    case round =>
      obtain ⟨lo, hi, h1, h2, h3, h4, h5, rfl, rfl⟩ := hrel
      by_cases hlt : lo < hi
      · have hm : lo + 1 ≤ lo + (hi - lo + 1) / 2 ∧ lo + (hi - lo + 1) / 2 ≤ hi := by omega
        have hmm : (lo + (hi - lo + 1) / 2) * (lo + (hi - lo + 1) / 2) ≤ 9223372036854775807 ∧ 0 ≤ (lo + (hi - lo + 1) / 2) * (lo + (hi - lo + 1) / 2) := by
          have := sq_le_of (x := lo + (hi - lo + 1) / 2) (M := 3037000499) (by omega)
          have := sq_nonneg (lo + (hi - lo + 1) / 2)
          generalize (lo + (hi - lo + 1) / 2) * (lo + (hi - lo + 1) / 2) = t at *
          omega
        by_cases hc : (lo + (hi - lo + 1) / 2) * (lo + (hi - lo + 1) / 2) ≤ n
        · go_wp2
          go_round
          case rel => exact ⟨_, _, by omega, hm.2, h3, hc, h5, rfl, rfl⟩
          case measure => simp [intOf]; omega
        · go_wp2
          go_round
          case rel => exact ⟨_, _, h1, by omega, by omega, h4, by rw [show lo + (hi - lo + 1) / 2 - 1 + 1 = lo + (hi - lo + 1) / 2 from by omega]; omega, rfl, rfl⟩
          case measure => simp [intOf]; omega
      · have he : lo = hi := by omega
        have hr : root n = lo := root_unique h1 h4 (by rw [he]; exact h5)
        have HR := Lib.hid hr; clear hr he
        go_wp2
        go_ret
        exact ⟨ret1 HR.out.symm, rfl⟩
set_option maxHeartbeats 1000000 in
theorem turn_any (ax ay bx by' cx cy : Int) (w : World) :
    Calls Try.prog 149 #[.agg #[.int .i64 ax, .int .i64 ay], .agg #[.int .i64 bx, .int .i64 by'], .agg #[.int .i64 cx, .int .i64 cy]] w fun e w' => e = .returned (.int .i64 (sgn (crsw ax ay bx by' cx cy))) ∧ Below w.heap.size w w' := by
  go_enter Try.func149, Try.ntmps149
  go_wp2
  refine region_below (by kernel_rfl) (by kernel_rfl) ?_
  repeat
    (refine q_step rfl ?_
     apply Exists.intro
     refine ⟨fun wq hc hq => ?_, ?_⟩
     · go_simp
       first
         | rfl
         | (go_at_call 166; exact call_below hq (sub _ _ _ _ _))
         | (go_at_call 181; exact call_below hq (cross _ _ _ _ _))
     simp only [Act.put, List.setIfInBounds_toArray, List.set_cons_zero, List.set_cons_succ])
  refine wpQuiet_nil ?_
  intro w1 hb1
  have hbw := b_next (b_alloc (b_alloc (b_alloc (Below.refl _ w) _) _) _) hb1
  go_wp2
  all_goals go_ret
  · exact ⟨ret1 (sgn_pos (by unfold crsw; assumption)).symm, hbw⟩
  · exact ⟨ret1 (sgn_neg (by unfold crsw; assumption)).symm, hbw⟩
  · exact ⟨ret1 (sgn_zero (by unfold crsw; omega)).symm, hbw⟩
theorem turn (ax ay bx by' cx cy : Int) (w : World) {M : Int} (hM : M = 1000000000) (h : (-M ≤ ax ∧ ax ≤ M) ∧ (-M ≤ ay ∧ ay ≤ M) ∧ (-M ≤ bx ∧ bx ≤ M) ∧ (-M ≤ by' ∧ by' ≤ M) ∧ (-M ≤ cx ∧ cx ≤ M) ∧ (-M ≤ cy ∧ cy ≤ M)) :
    Calls Try.prog 149 #[.agg #[.int .i64 ax, .int .i64 ay], .agg #[.int .i64 bx, .int .i64 by'], .agg #[.int .i64 cx, .int .i64 cy]] w fun e w' => e = .returned (.int .i64 (sgn (crs ax ay bx by' cx cy))) ∧ Below w.heap.size w w' := by
  have c := turn_any ax ay bx by' cx cy w
  rw [crsw_eq hM h] at c
  exact c
set_option maxHeartbeats 1000000 in
theorem distance (ax ay bx by' : Int) (w : World) {M : Int} (hM : M = 1000000000) (h : (-M ≤ ax ∧ ax ≤ M) ∧ (-M ≤ ay ∧ ay ≤ M) ∧ (-M ≤ bx ∧ bx ≤ M) ∧ (-M ≤ by' ∧ by' ≤ M)) :
    Calls Try.prog 67 #[.agg #[.int .i64 ax, .int .i64 ay], .agg #[.int .i64 bx, .int .i64 by']] w fun e w' => e = .returned (.tuple #[.int .i64 (root (sqr ax ay bx by')), .int .i64 (dup (sqr ax ay bx by'))]) ∧ Below w.heap.size w w' := by
  have hs := (sqr_wrap hM h).2
  have hs0 := sqr_nonneg ax ay bx by'
  have c := fun w => square ax ay bx by' w hM h
  generalize sqr ax ay bx by' = s at *
  obtain ⟨r0, r1, _⟩ := root_spec hs0
  have r2 := root_le (n := s) (by omega)
  have C := Lib.hid c
  clear c h hM
  by_cases hlt : root s * root s < s
  · have hd : dup s = root s + 1 := if_pos hlt
    have HD := Lib.hid hd; clear hd
    have r3 : root s * root s ≤ 8000000000000000000 ∧ 0 ≤ root s * root s := ⟨by omega, sq_nonneg _⟩
    go_enter Try.func67, Try.ntmps67
    go_wp2_with fail
    refine (C.out _).mono ?_; rintro e w1 ⟨rfl, hb⟩
    go_wp2_with fail
    refine (rootC s _ (by omega)).mono ?_; rintro e w2 ⟨rfl, rfl⟩
    go_wp2_with fail
    go_ret2
    exact ⟨ret2 rfl HD.out.symm, b_next (b_alloc (b_alloc (Below.refl _ _) _) _) hb⟩
  · have hd : dup s = root s := if_neg hlt
    have HD := Lib.hid hd; clear hd
    have r3 : root s * root s ≤ 8000000000000000000 ∧ 0 ≤ root s * root s := ⟨by omega, sq_nonneg _⟩
    go_enter Try.func67, Try.ntmps67
    go_wp2_with fail
    refine (C.out _).mono ?_; rintro e w1 ⟨rfl, hb⟩
    go_wp2_with fail
    refine (rootC s _ (by omega)).mono ?_; rintro e w2 ⟨rfl, rfl⟩
    go_wp2_with fail
    go_ret2
    exact ⟨ret2 rfl HD.out.symm, b_next (b_alloc (b_alloc (Below.refl _ _) _) _) hb⟩
set_option maxHeartbeats 1000000 in
theorem within (ax ay bx by' d : Int) (w : World) {M : Int} (hM : M = 1000000000) (h : (-M ≤ ax ∧ ax ≤ M) ∧ (-M ≤ ay ∧ ay ≤ M) ∧ (-M ≤ bx ∧ bx ≤ M) ∧ (-M ≤ by' ∧ by' ≤ M)) :
    Calls Try.prog 132 #[.agg #[.int .i64 ax, .int .i64 ay], .agg #[.int .i64 bx, .int .i64 by'], .int .i64 d] w fun e w' => e = .returned (.bool (inB (sqr ax ay bx by') d)) ∧ Below w.heap.size w w' := by
  have c := fun w => square ax ay bx by' w hM h
  have hs := (sqr_wrap hM h).2
  generalize sqr ax ay bx by' = s at *
  have C := Lib.hid c
  clear c h hM
  by_cases h0 : 0 ≤ d
  · by_cases h1 : d ≤ 8000000
    · have hdd : d * d ≤ 64000000000000 := sq_le_of (M := 8000000) (by omega)
      have hdd0 := sq_nonneg d
      have he : inB s d = decide (s ≤ d * d) := by unfold inB; rw [decide_eq_decide]; exact ⟨fun h => h.2.2, fun h => ⟨h0, h1, h⟩⟩
      have HE := Lib.hid he; clear he
      go_enter Try.func132, Try.ntmps132
      go_wp2_with fail
      refine (C.out _).mono ?_; rintro e w1 ⟨rfl, hb⟩
      go_wp2_with fail
      go_ret
      exact ⟨retb HE.out.symm, b_next (b_alloc (b_alloc (Below.refl _ _) _) _) hb⟩
    · have he : inB s d = false := by unfold inB; rw [decide_eq_false_iff_not]; exact fun h => h1 h.2.1
      have HE := Lib.hid he; clear he
      go_enter Try.func132, Try.ntmps132
      go_wp2_with fail
      go_ret
      exact ⟨retb HE.out.symm, b_alloc (b_alloc (Below.refl _ _) _) _⟩
  · have he : inB s d = false := by unfold inB; rw [decide_eq_false_iff_not]; exact fun h => h0 h.1
    have HE := Lib.hid he; clear he
    go_enter Try.func132, Try.ntmps132
    go_wp2_with fail
    go_ret
    exact ⟨retb HE.out.symm, b_alloc (b_alloc (Below.refl _ _) _) _⟩
end Plane
end Go.Proofs.Yteaccanhahmclaa
