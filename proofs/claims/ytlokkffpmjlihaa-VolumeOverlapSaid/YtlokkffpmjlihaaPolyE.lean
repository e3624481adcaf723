/- What polygon.far returns. -/
import Derived.Test.YtlokkffpmjlihaaPolyD
import Derived.Test.YtlokkffpmjlihaaMul64
namespace Go.Proofs.Ytlokkffpmjlihaa
open Go.RowKit
namespace Poly
open Kit Plane
set_option maxHeartbeats 2000000 in
theorem far_a (ax ay bx by' qx qy d vx vy wx wy T L : Int) (w : World)
    (S1 : Hid (∀ w, Calls Try.prog 113 #[.agg #[.int .i64 bx, .int .i64 by'], .agg #[.int .i64 ax, .int .i64 ay]] w fun e w' => e = .returned (.agg #[.int .i64 vx, .int .i64 vy]) ∧ Below w.heap.size w w'))
    (S2 : Hid (∀ w, Calls Try.prog 113 #[.agg #[.int .i64 qx, .int .i64 qy], .agg #[.int .i64 ax, .int .i64 ay]] w fun e w' => e = .returned (.agg #[.int .i64 wx, .int .i64 wy]) ∧ Below w.heap.size w w'))
    (D1 : Hid (∀ w, Calls Try.prog 112 #[.agg #[.int .i64 vx, .int .i64 vy], .agg #[.int .i64 wx, .int .i64 wy]] w fun e w' => e = .returned (.int .i64 T) ∧ Below w.heap.size w w'))
    (D2 : Hid (∀ w, Calls Try.prog 112 #[.agg #[.int .i64 vx, .int .i64 vy], .agg #[.int .i64 vx, .int .i64 vy]] w fun e w' => e = .returned (.int .i64 L) ∧ Below w.heap.size w w'))
    (hd0 : 0 ≤ d) (hd1 : d ≤ 1000000) (S : Int) (hT : T ≤ 0) (Q : Hid (∀ w, Calls Try.prog 100 #[.agg #[.int .i64 ax, .int .i64 ay], .agg #[.int .i64 qx, .int .i64 qy]] w fun e w' => e = .returned (.int .i64 S) ∧ Below w.heap.size w w')) :
    Calls Try.prog 114 #[.agg #[.int .i64 ax, .int .i64 ay], .agg #[.int .i64 bx, .int .i64 by'], .agg #[.int .i64 qx, .int .i64 qy], .int .i64 d] w fun e w' => e = .returned (.bool (decide (d * d < S))) ∧ Below w.heap.size w w' := by
  have hdd : 0 ≤ d * d ∧ d * d ≤ 1000000 * 1000000 := ⟨Int.mul_nonneg hd0 hd0, Int.mul_le_mul hd1 hd1 hd0 (by omega)⟩
  go_enter Try.func114, Try.ntmps114
  have Ha := Lib.hid (p2_alloc (.cells #[.int .i64 qx, .int .i64 qy] 34) (p2_alloc (.cells #[.int .i64 bx, .int .i64 by'] 34) (p2_new w 34 ax ay)))
  have Hb := Lib.hid (p2_alloc (.cells #[.int .i64 qx, .int .i64 qy] 34) (p2_new1 w (.cells #[.int .i64 ax, .int .i64 ay] 34) 34 bx by'))
  have Hq := Lib.hid (p2_new2 w (.cells #[.int .i64 ax, .int .i64 ay] 34) (.cells #[.int .i64 bx, .int .i64 by'] 34) 34 qx qy)
  have HW := Lib.hid (b_alloc (b_alloc (b_alloc (Below.refl w.heap.size w) (.cells #[.int .i64 ax, .int .i64 ay] 34)) (.cells #[.int .i64 bx, .int .i64 by'] 34)) (.cells #[.int .i64 qx, .int .i64 qy] 34))
  go_wp2_with fail
  refine fresh_region (by kernel_rfl) (by kernel_rfl) ?_
  apply Fq.r
  · intro wq hc hq
    (have qa := p2_keep (cls hq) Ha.out; have qb := p2_keep (cls hq) Hb.out; have qq := p2_keep (cls hq) Hq.out; clear hc; go_simp; first | exact q2_value | exact q2_skip | (apply q2_enter; go_at_call 113; with_reducible exact S1.out _) | (apply q2_enter; go_at_call 113; with_reducible exact S2.out _))
  simp only [Act.put, List.setIfInBounds_toArray, List.set_cons_zero, List.set_cons_succ]
  apply Fq.r
  · intro wq hc hq
    (have qa := p2_keep (cls hq) Ha.out; have qb := p2_keep (cls hq) Hb.out; have qq := p2_keep (cls hq) Hq.out; clear hc; go_simp; first | exact q2_value | exact q2_skip | (apply q2_enter; go_at_call 113; with_reducible exact S1.out _) | (apply q2_enter; go_at_call 113; with_reducible exact S2.out _))
  simp only [Act.put, List.setIfInBounds_toArray, List.set_cons_zero, List.set_cons_succ]
  apply Fq.r
  · intro wq hc hq
    (have qa := p2_keep (cls hq) Ha.out; have qb := p2_keep (cls hq) Hb.out; have qq := p2_keep (cls hq) Hq.out; clear hc; go_simp; first | exact q2_value | exact q2_skip | (apply q2_enter; go_at_call 113; with_reducible exact S1.out _) | (apply q2_enter; go_at_call 113; with_reducible exact S2.out _))
  simp only [Act.put, List.setIfInBounds_toArray, List.set_cons_zero, List.set_cons_succ]
  apply Fq.r
  · intro wq hc hq
    (have qa := p2_keep (cls hq) Ha.out; have qb := p2_keep (cls hq) Hb.out; have qq := p2_keep (cls hq) Hq.out; clear hc; go_simp; first | exact q2_value | exact q2_skip | (apply q2_enter; go_at_call 113; with_reducible exact S1.out _) | (apply q2_enter; go_at_call 113; with_reducible exact S2.out _))
  simp only [Act.put, List.setIfInBounds_toArray, List.set_cons_zero, List.set_cons_succ]
  apply Fq.r
  · intro wq hc hq
    (have qa := p2_keep (cls hq) Ha.out; have qb := p2_keep (cls hq) Hb.out; have qq := p2_keep (cls hq) Hq.out; clear hc; go_simp; first | exact q2_value | exact q2_skip | (apply q2_enter; go_at_call 113; with_reducible exact S1.out _) | (apply q2_enter; go_at_call 113; with_reducible exact S2.out _))
  simp only [Act.put, List.setIfInBounds_toArray, List.set_cons_zero, List.set_cons_succ]
  apply Fq.r
  · intro wq hc hq
    (have qa := p2_keep (cls hq) Ha.out; have qb := p2_keep (cls hq) Hb.out; have qq := p2_keep (cls hq) Hq.out; clear hc; go_simp; first | exact q2_value | exact q2_skip | (apply q2_enter; go_at_call 113; with_reducible exact S1.out _) | (apply q2_enter; go_at_call 113; with_reducible exact S2.out _))
  simp only [Act.put, List.setIfInBounds_toArray, List.set_cons_zero, List.set_cons_succ]
  refine Fq.al 9 34 #[.int .i64 0, .int .i64 0] rfl (by simp) (fun wq => by go_simp) ?_
  refine Fq.al 10 34 #[.int .i64 0, .int .i64 0] rfl (by simp) (fun wq => by go_simp) ?_
  refine Fq.st 6 #[.int .i64 vx, .int .i64 vy] 9 34 #[.int .i64 0, .int .i64 0] rfl rfl (fun wq bq hq => ⟨((wq.setCell ⟨bq, 0, none⟩ (.int .i64 vx)).setCell ⟨bq, 1, none⟩ (.int .i64 vy)), ?_, blk_set (blk_set (hq) 0 (.int .i64 vx)) 1 (.int .i64 vy), only_set (only_set (only_refl _ _) 0 (.int .i64 vx)) 1 (.int .i64 vy)⟩) ?_
  · (have c0 : wq.cell? ⟨bq, 0, none⟩ = some (.int .i64 0) := blk_cell hq 0; have f0 := blk_free hq 0; have c1 : wq.cell? ⟨bq, 1, none⟩ = some (.int .i64 0) := blk_cell hq 1; have f1 := blk_free hq 1; simp only [Act.put, List.setIfInBounds_toArray, List.set_cons_zero, List.set_cons_succ]; clear hq; go_simp)
  refine Fq.st 7 #[.int .i64 wx, .int .i64 wy] 10 34 #[.int .i64 0, .int .i64 0] rfl rfl (fun wq bq hq => ⟨((wq.setCell ⟨bq, 0, none⟩ (.int .i64 wx)).setCell ⟨bq, 1, none⟩ (.int .i64 wy)), ?_, blk_set (blk_set (hq) 0 (.int .i64 wx)) 1 (.int .i64 wy), only_set (only_set (only_refl _ _) 0 (.int .i64 wx)) 1 (.int .i64 wy)⟩) ?_
  · (have c0 : wq.cell? ⟨bq, 0, none⟩ = some (.int .i64 0) := blk_cell hq 0; have f0 := blk_free hq 0; have c1 : wq.cell? ⟨bq, 1, none⟩ = some (.int .i64 0) := blk_cell hq 1; have f1 := blk_free hq 1; simp only [Act.put, List.setIfInBounds_toArray, List.set_cons_zero, List.set_cons_succ]; clear hq; go_simp)
  refine Fq.nil ⟨by kernel_rfl, fun β w1 M => ?_⟩
  simp only [List.reverse_cons, List.reverse_nil, List.nil_append, List.cons_append, putAl, Act.put, List.setIfInBounds_toArray, List.set_cons_zero, List.set_cons_succ, Nat.reduceAdd]
  have z6 := blk_b2 (M.block 8 6 _ _ _ _ rfl rfl)
  have l6 := M.fresh 6 _ _ _ rfl
  have z7 := blk_b2 (M.block 9 7 _ _ _ _ rfl rfl)
  have l7 := M.fresh 7 _ _ _ rfl
  have m6_7 := made_ne M 6 7 rfl rfl (by decide)
  have hbw1 := M.below
  clear M
  generalize β 6 = p6 at *
  generalize β 7 = p7 at *
  go_wp2_with fail
  refine d_region (by kernel_rfl) (by kernel_rfl) ?_
  repeat
    first
      | (refine d_plain (by with_reducible rfl) ?_; apply Exists.intro; refine ⟨fun wq hc hq => ?_, ?_⟩)
      | (refine d_on (by with_reducible rfl) (by rfl) (by with_reducible rfl) ?_; apply Exists.intro; refine ⟨fun wq hc hq => ?_, ?_⟩)
      | (refine d_off (by with_reducible rfl) (by rfl) (by rfl) ?_)
      | (refine d_void (by with_reducible rfl) (by rfl) ?_)
    try any_goals
      (have q6 := p2_keep (cls hq) z6.1; have q7 := p2_keep (cls hq) z7.1; clear hc
       go_simp
       first
         | rfl
         | (go_at_call 112; with_reducible exact call_below hq (D1.out _))
         | (go_at_call 112; with_reducible exact call_below hq (D2.out _)))
    simp only [Act.put, List.setIfInBounds_toArray, List.set_cons_zero, List.set_cons_succ]
  refine d_nil ?_
  intro w2 hb2
  have hw2 := b_next (b_next HW.out hbw1) hb2
  have ka := p2_keep hb2 (p2_keep hbw1 Ha.out); have kb := p2_keep hb2 (p2_keep hbw1 Hb.out); have kq := p2_keep hb2 (p2_keep hbw1 Hq.out)
  clear z6 z7
  go_wp2_with fail
  refine (Q.out _).mono ?_; rintro e w3 ⟨rfl, h⟩
  replace hw2 := b_next hw2 h; clear h
  go_wp2_with fail
  go_ret
  exact ⟨retb rfl, hw2⟩
set_option maxHeartbeats 2000000 in
theorem far_b (ax ay bx by' qx qy d vx vy wx wy T L : Int) (w : World)
    (S1 : Hid (∀ w, Calls Try.prog 113 #[.agg #[.int .i64 bx, .int .i64 by'], .agg #[.int .i64 ax, .int .i64 ay]] w fun e w' => e = .returned (.agg #[.int .i64 vx, .int .i64 vy]) ∧ Below w.heap.size w w'))
    (S2 : Hid (∀ w, Calls Try.prog 113 #[.agg #[.int .i64 qx, .int .i64 qy], .agg #[.int .i64 ax, .int .i64 ay]] w fun e w' => e = .returned (.agg #[.int .i64 wx, .int .i64 wy]) ∧ Below w.heap.size w w'))
    (D1 : Hid (∀ w, Calls Try.prog 112 #[.agg #[.int .i64 vx, .int .i64 vy], .agg #[.int .i64 wx, .int .i64 wy]] w fun e w' => e = .returned (.int .i64 T) ∧ Below w.heap.size w w'))
    (D2 : Hid (∀ w, Calls Try.prog 112 #[.agg #[.int .i64 vx, .int .i64 vy], .agg #[.int .i64 vx, .int .i64 vy]] w fun e w' => e = .returned (.int .i64 L) ∧ Below w.heap.size w w'))
    (hd0 : 0 ≤ d) (hd1 : d ≤ 1000000) (S : Int) (hT : ¬ T ≤ 0) (hL : L ≤ T) (Q : Hid (∀ w, Calls Try.prog 100 #[.agg #[.int .i64 bx, .int .i64 by'], .agg #[.int .i64 qx, .int .i64 qy]] w fun e w' => e = .returned (.int .i64 S) ∧ Below w.heap.size w w')) :
    Calls Try.prog 114 #[.agg #[.int .i64 ax, .int .i64 ay], .agg #[.int .i64 bx, .int .i64 by'], .agg #[.int .i64 qx, .int .i64 qy], .int .i64 d] w fun e w' => e = .returned (.bool (decide (d * d < S))) ∧ Below w.heap.size w w' := by
  have hdd : 0 ≤ d * d ∧ d * d ≤ 1000000 * 1000000 := ⟨Int.mul_nonneg hd0 hd0, Int.mul_le_mul hd1 hd1 hd0 (by omega)⟩
  go_enter Try.func114, Try.ntmps114
  have Ha := Lib.hid (p2_alloc (.cells #[.int .i64 qx, .int .i64 qy] 34) (p2_alloc (.cells #[.int .i64 bx, .int .i64 by'] 34) (p2_new w 34 ax ay)))
  have Hb := Lib.hid (p2_alloc (.cells #[.int .i64 qx, .int .i64 qy] 34) (p2_new1 w (.cells #[.int .i64 ax, .int .i64 ay] 34) 34 bx by'))
  have Hq := Lib.hid (p2_new2 w (.cells #[.int .i64 ax, .int .i64 ay] 34) (.cells #[.int .i64 bx, .int .i64 by'] 34) 34 qx qy)
  have HW := Lib.hid (b_alloc (b_alloc (b_alloc (Below.refl w.heap.size w) (.cells #[.int .i64 ax, .int .i64 ay] 34)) (.cells #[.int .i64 bx, .int .i64 by'] 34)) (.cells #[.int .i64 qx, .int .i64 qy] 34))
  go_wp2_with fail
  refine fresh_region (by kernel_rfl) (by kernel_rfl) ?_
  apply Fq.r
  · intro wq hc hq
    (have qa := p2_keep (cls hq) Ha.out; have qb := p2_keep (cls hq) Hb.out; have qq := p2_keep (cls hq) Hq.out; clear hc; go_simp; first | exact q2_value | exact q2_skip | (apply q2_enter; go_at_call 113; with_reducible exact S1.out _) | (apply q2_enter; go_at_call 113; with_reducible exact S2.out _))
  simp only [Act.put, List.setIfInBounds_toArray, List.set_cons_zero, List.set_cons_succ]
  apply Fq.r
  · intro wq hc hq
    (have qa := p2_keep (cls hq) Ha.out; have qb := p2_keep (cls hq) Hb.out; have qq := p2_keep (cls hq) Hq.out; clear hc; go_simp; first | exact q2_value | exact q2_skip | (apply q2_enter; go_at_call 113; with_reducible exact S1.out _) | (apply q2_enter; go_at_call 113; with_reducible exact S2.out _))
  simp only [Act.put, List.setIfInBounds_toArray, List.set_cons_zero, List.set_cons_succ]
  apply Fq.r
  · intro wq hc hq
    (have qa := p2_keep (cls hq) Ha.out; have qb := p2_keep (cls hq) Hb.out; have qq := p2_keep (cls hq) Hq.out; clear hc; go_simp; first | exact q2_value | exact q2_skip | (apply q2_enter; go_at_call 113; with_reducible exact S1.out _) | (apply q2_enter; go_at_call 113; with_reducible exact S2.out _))
  simp only [Act.put, List.setIfInBounds_toArray, List.set_cons_zero, List.set_cons_succ]
  apply Fq.r
  · intro wq hc hq
    (have qa := p2_keep (cls hq) Ha.out; have qb := p2_keep (cls hq) Hb.out; have qq := p2_keep (cls hq) Hq.out; clear hc; go_simp; first | exact q2_value | exact q2_skip | (apply q2_enter; go_at_call 113; with_reducible exact S1.out _) | (apply q2_enter; go_at_call 113; with_reducible exact S2.out _))
  simp only [Act.put, List.setIfInBounds_toArray, List.set_cons_zero, List.set_cons_succ]
  apply Fq.r
  · intro wq hc hq
    (have qa := p2_keep (cls hq) Ha.out; have qb := p2_keep (cls hq) Hb.out; have qq := p2_keep (cls hq) Hq.out; clear hc; go_simp; first | exact q2_value | exact q2_skip | (apply q2_enter; go_at_call 113; with_reducible exact S1.out _) | (apply q2_enter; go_at_call 113; with_reducible exact S2.out _))
  simp only [Act.put, List.setIfInBounds_toArray, List.set_cons_zero, List.set_cons_succ]
  apply Fq.r
  · intro wq hc hq
    (have qa := p2_keep (cls hq) Ha.out; have qb := p2_keep (cls hq) Hb.out; have qq := p2_keep (cls hq) Hq.out; clear hc; go_simp; first | exact q2_value | exact q2_skip | (apply q2_enter; go_at_call 113; with_reducible exact S1.out _) | (apply q2_enter; go_at_call 113; with_reducible exact S2.out _))
  simp only [Act.put, List.setIfInBounds_toArray, List.set_cons_zero, List.set_cons_succ]
  refine Fq.al 9 34 #[.int .i64 0, .int .i64 0] rfl (by simp) (fun wq => by go_simp) ?_
  refine Fq.al 10 34 #[.int .i64 0, .int .i64 0] rfl (by simp) (fun wq => by go_simp) ?_
  refine Fq.st 6 #[.int .i64 vx, .int .i64 vy] 9 34 #[.int .i64 0, .int .i64 0] rfl rfl (fun wq bq hq => ⟨((wq.setCell ⟨bq, 0, none⟩ (.int .i64 vx)).setCell ⟨bq, 1, none⟩ (.int .i64 vy)), ?_, blk_set (blk_set (hq) 0 (.int .i64 vx)) 1 (.int .i64 vy), only_set (only_set (only_refl _ _) 0 (.int .i64 vx)) 1 (.int .i64 vy)⟩) ?_
  · (have c0 : wq.cell? ⟨bq, 0, none⟩ = some (.int .i64 0) := blk_cell hq 0; have f0 := blk_free hq 0; have c1 : wq.cell? ⟨bq, 1, none⟩ = some (.int .i64 0) := blk_cell hq 1; have f1 := blk_free hq 1; simp only [Act.put, List.setIfInBounds_toArray, List.set_cons_zero, List.set_cons_succ]; clear hq; go_simp)
  refine Fq.st 7 #[.int .i64 wx, .int .i64 wy] 10 34 #[.int .i64 0, .int .i64 0] rfl rfl (fun wq bq hq => ⟨((wq.setCell ⟨bq, 0, none⟩ (.int .i64 wx)).setCell ⟨bq, 1, none⟩ (.int .i64 wy)), ?_, blk_set (blk_set (hq) 0 (.int .i64 wx)) 1 (.int .i64 wy), only_set (only_set (only_refl _ _) 0 (.int .i64 wx)) 1 (.int .i64 wy)⟩) ?_
  · (have c0 : wq.cell? ⟨bq, 0, none⟩ = some (.int .i64 0) := blk_cell hq 0; have f0 := blk_free hq 0; have c1 : wq.cell? ⟨bq, 1, none⟩ = some (.int .i64 0) := blk_cell hq 1; have f1 := blk_free hq 1; simp only [Act.put, List.setIfInBounds_toArray, List.set_cons_zero, List.set_cons_succ]; clear hq; go_simp)
  refine Fq.nil ⟨by kernel_rfl, fun β w1 M => ?_⟩
  simp only [List.reverse_cons, List.reverse_nil, List.nil_append, List.cons_append, putAl, Act.put, List.setIfInBounds_toArray, List.set_cons_zero, List.set_cons_succ, Nat.reduceAdd]
  have z6 := blk_b2 (M.block 8 6 _ _ _ _ rfl rfl)
  have l6 := M.fresh 6 _ _ _ rfl
  have z7 := blk_b2 (M.block 9 7 _ _ _ _ rfl rfl)
  have l7 := M.fresh 7 _ _ _ rfl
  have m6_7 := made_ne M 6 7 rfl rfl (by decide)
  have hbw1 := M.below
  clear M
  generalize β 6 = p6 at *
  generalize β 7 = p7 at *
  go_wp2_with fail
  refine d_region (by kernel_rfl) (by kernel_rfl) ?_
  repeat
    first
      | (refine d_plain (by with_reducible rfl) ?_; apply Exists.intro; refine ⟨fun wq hc hq => ?_, ?_⟩)
      | (refine d_on (by with_reducible rfl) (by rfl) (by with_reducible rfl) ?_; apply Exists.intro; refine ⟨fun wq hc hq => ?_, ?_⟩)
      | (refine d_off (by with_reducible rfl) (by rfl) (by rfl) ?_)
      | (refine d_void (by with_reducible rfl) (by rfl) ?_)
    try any_goals
      (have q6 := p2_keep (cls hq) z6.1; have q7 := p2_keep (cls hq) z7.1; clear hc
       go_simp
       first
         | rfl
         | (go_at_call 112; with_reducible exact call_below hq (D1.out _))
         | (go_at_call 112; with_reducible exact call_below hq (D2.out _)))
    simp only [Act.put, List.setIfInBounds_toArray, List.set_cons_zero, List.set_cons_succ]
  refine d_nil ?_
  intro w2 hb2
  have hw2 := b_next (b_next HW.out hbw1) hb2
  have ka := p2_keep hb2 (p2_keep hbw1 Ha.out); have kb := p2_keep hb2 (p2_keep hbw1 Hb.out); have kq := p2_keep hb2 (p2_keep hbw1 Hq.out)
  clear z6 z7
  go_wp2_with fail
  refine (Q.out _).mono ?_; rintro e w3 ⟨rfl, h⟩
  replace hw2 := b_next hw2 h; clear h
  go_wp2_with fail
  go_ret
  exact ⟨retb rfl, hw2⟩
set_option maxHeartbeats 2000000 in
theorem far_p (ax ay bx by' qx qy d vx vy wx wy T L : Int) (w : World)
    (S1 : Hid (∀ w, Calls Try.prog 113 #[.agg #[.int .i64 bx, .int .i64 by'], .agg #[.int .i64 ax, .int .i64 ay]] w fun e w' => e = .returned (.agg #[.int .i64 vx, .int .i64 vy]) ∧ Below w.heap.size w w'))
    (S2 : Hid (∀ w, Calls Try.prog 113 #[.agg #[.int .i64 qx, .int .i64 qy], .agg #[.int .i64 ax, .int .i64 ay]] w fun e w' => e = .returned (.agg #[.int .i64 wx, .int .i64 wy]) ∧ Below w.heap.size w w'))
    (D1 : Hid (∀ w, Calls Try.prog 112 #[.agg #[.int .i64 vx, .int .i64 vy], .agg #[.int .i64 wx, .int .i64 wy]] w fun e w' => e = .returned (.int .i64 T) ∧ Below w.heap.size w w'))
    (D2 : Hid (∀ w, Calls Try.prog 112 #[.agg #[.int .i64 vx, .int .i64 vy], .agg #[.int .i64 vx, .int .i64 vy]] w fun e w' => e = .returned (.int .i64 L) ∧ Below w.heap.size w w'))
    (hd0 : 0 ≤ d) (hd1 : d ≤ 1000000) (cn dn ln h1 l1 h2 l2 : Nat) (hT : ¬ T ≤ 0) (hL : ¬ L ≤ T) (hLL : L ≤ 9000000000000) (hcn : cn ≤ 9000000000000)  (edn : Hid (d * d = dn)) (eln : Hid (L = ln))
    (C : Hid (∀ w, Calls Try.prog 136 #[.agg #[.int .i64 vx, .int .i64 vy], .agg #[.int .i64 wx, .int .i64 wy]] w fun e w' => e = .returned (.int .i64 ((cn : Int))) ∧ Below w.heap.size w w'))
    (M1 : Hid (∀ w : World, Calls Try.prog 139 #[.int .u64 cn, .int .u64 cn] w fun e w' => e = .returned (.tuple #[.int .u64 h1, .int .u64 l1]) ∧ w = w'))
    (M2 : Hid (∀ w : World, Calls Try.prog 139 #[.int .u64 dn, .int .u64 ln] w fun e w' => e = .returned (.tuple #[.int .u64 h2, .int .u64 l2]) ∧ w = w')) :
    Calls Try.prog 114 #[.agg #[.int .i64 ax, .int .i64 ay], .agg #[.int .i64 bx, .int .i64 by'], .agg #[.int .i64 qx, .int .i64 qy], .int .i64 d] w fun e w' => e = .returned (.bool (decide (h2 < h1 ∨ h1 = h2 ∧ l2 < l1))) ∧ Below w.heap.size w w' := by
  have hdd : 0 ≤ d * d ∧ d * d ≤ 1000000 * 1000000 := ⟨Int.mul_nonneg hd0 hd0, Int.mul_le_mul hd1 hd1 hd0 (by omega)⟩
  go_enter Try.func114, Try.ntmps114
  have Ha := Lib.hid (p2_alloc (.cells #[.int .i64 qx, .int .i64 qy] 34) (p2_alloc (.cells #[.int .i64 bx, .int .i64 by'] 34) (p2_new w 34 ax ay)))
  have Hb := Lib.hid (p2_alloc (.cells #[.int .i64 qx, .int .i64 qy] 34) (p2_new1 w (.cells #[.int .i64 ax, .int .i64 ay] 34) 34 bx by'))
  have Hq := Lib.hid (p2_new2 w (.cells #[.int .i64 ax, .int .i64 ay] 34) (.cells #[.int .i64 bx, .int .i64 by'] 34) 34 qx qy)
  have HW := Lib.hid (b_alloc (b_alloc (b_alloc (Below.refl w.heap.size w) (.cells #[.int .i64 ax, .int .i64 ay] 34)) (.cells #[.int .i64 bx, .int .i64 by'] 34)) (.cells #[.int .i64 qx, .int .i64 qy] 34))
  go_wp2_with fail
  refine fresh_region (by kernel_rfl) (by kernel_rfl) ?_
  apply Fq.r
  · intro wq hc hq
    (have qa := p2_keep (cls hq) Ha.out; have qb := p2_keep (cls hq) Hb.out; have qq := p2_keep (cls hq) Hq.out; clear hc; go_simp; first | exact q2_value | exact q2_skip | (apply q2_enter; go_at_call 113; with_reducible exact S1.out _) | (apply q2_enter; go_at_call 113; with_reducible exact S2.out _))
  simp only [Act.put, List.setIfInBounds_toArray, List.set_cons_zero, List.set_cons_succ]
  apply Fq.r
  · intro wq hc hq
    (have qa := p2_keep (cls hq) Ha.out; have qb := p2_keep (cls hq) Hb.out; have qq := p2_keep (cls hq) Hq.out; clear hc; go_simp; first | exact q2_value | exact q2_skip | (apply q2_enter; go_at_call 113; with_reducible exact S1.out _) | (apply q2_enter; go_at_call 113; with_reducible exact S2.out _))
  simp only [Act.put, List.setIfInBounds_toArray, List.set_cons_zero, List.set_cons_succ]
  apply Fq.r
  · intro wq hc hq
    (have qa := p2_keep (cls hq) Ha.out; have qb := p2_keep (cls hq) Hb.out; have qq := p2_keep (cls hq) Hq.out; clear hc; go_simp; first | exact q2_value | exact q2_skip | (apply q2_enter; go_at_call 113; with_reducible exact S1.out _) | (apply q2_enter; go_at_call 113; with_reducible exact S2.out _))
  simp only [Act.put, List.setIfInBounds_toArray, List.set_cons_zero, List.set_cons_succ]
  apply Fq.r
  · intro wq hc hq
    (have qa := p2_keep (cls hq) Ha.out; have qb := p2_keep (cls hq) Hb.out; have qq := p2_keep (cls hq) Hq.out; clear hc; go_simp; first | exact q2_value | exact q2_skip | (apply q2_enter; go_at_call 113; with_reducible exact S1.out _) | (apply q2_enter; go_at_call 113; with_reducible exact S2.out _))
  simp only [Act.put, List.setIfInBounds_toArray, List.set_cons_zero, List.set_cons_succ]
  apply Fq.r
  · intro wq hc hq
    (have qa := p2_keep (cls hq) Ha.out; have qb := p2_keep (cls hq) Hb.out; have qq := p2_keep (cls hq) Hq.out; clear hc; go_simp; first | exact q2_value | exact q2_skip | (apply q2_enter; go_at_call 113; with_reducible exact S1.out _) | (apply q2_enter; go_at_call 113; with_reducible exact S2.out _))
  simp only [Act.put, List.setIfInBounds_toArray, List.set_cons_zero, List.set_cons_succ]
  apply Fq.r
  · intro wq hc hq
    (have qa := p2_keep (cls hq) Ha.out; have qb := p2_keep (cls hq) Hb.out; have qq := p2_keep (cls hq) Hq.out; clear hc; go_simp; first | exact q2_value | exact q2_skip | (apply q2_enter; go_at_call 113; with_reducible exact S1.out _) | (apply q2_enter; go_at_call 113; with_reducible exact S2.out _))
  simp only [Act.put, List.setIfInBounds_toArray, List.set_cons_zero, List.set_cons_succ]
  refine Fq.al 9 34 #[.int .i64 0, .int .i64 0] rfl (by simp) (fun wq => by go_simp) ?_
  refine Fq.al 10 34 #[.int .i64 0, .int .i64 0] rfl (by simp) (fun wq => by go_simp) ?_
  refine Fq.st 6 #[.int .i64 vx, .int .i64 vy] 9 34 #[.int .i64 0, .int .i64 0] rfl rfl (fun wq bq hq => ⟨((wq.setCell ⟨bq, 0, none⟩ (.int .i64 vx)).setCell ⟨bq, 1, none⟩ (.int .i64 vy)), ?_, blk_set (blk_set (hq) 0 (.int .i64 vx)) 1 (.int .i64 vy), only_set (only_set (only_refl _ _) 0 (.int .i64 vx)) 1 (.int .i64 vy)⟩) ?_
  · (have c0 : wq.cell? ⟨bq, 0, none⟩ = some (.int .i64 0) := blk_cell hq 0; have f0 := blk_free hq 0; have c1 : wq.cell? ⟨bq, 1, none⟩ = some (.int .i64 0) := blk_cell hq 1; have f1 := blk_free hq 1; simp only [Act.put, List.setIfInBounds_toArray, List.set_cons_zero, List.set_cons_succ]; clear hq; go_simp)
  refine Fq.st 7 #[.int .i64 wx, .int .i64 wy] 10 34 #[.int .i64 0, .int .i64 0] rfl rfl (fun wq bq hq => ⟨((wq.setCell ⟨bq, 0, none⟩ (.int .i64 wx)).setCell ⟨bq, 1, none⟩ (.int .i64 wy)), ?_, blk_set (blk_set (hq) 0 (.int .i64 wx)) 1 (.int .i64 wy), only_set (only_set (only_refl _ _) 0 (.int .i64 wx)) 1 (.int .i64 wy)⟩) ?_
  · (have c0 : wq.cell? ⟨bq, 0, none⟩ = some (.int .i64 0) := blk_cell hq 0; have f0 := blk_free hq 0; have c1 : wq.cell? ⟨bq, 1, none⟩ = some (.int .i64 0) := blk_cell hq 1; have f1 := blk_free hq 1; simp only [Act.put, List.setIfInBounds_toArray, List.set_cons_zero, List.set_cons_succ]; clear hq; go_simp)
  refine Fq.nil ⟨by kernel_rfl, fun β w1 M => ?_⟩
  simp only [List.reverse_cons, List.reverse_nil, List.nil_append, List.cons_append, putAl, Act.put, List.setIfInBounds_toArray, List.set_cons_zero, List.set_cons_succ, Nat.reduceAdd]
  have z6 := blk_b2 (M.block 8 6 _ _ _ _ rfl rfl)
  have l6 := M.fresh 6 _ _ _ rfl
  have z7 := blk_b2 (M.block 9 7 _ _ _ _ rfl rfl)
  have l7 := M.fresh 7 _ _ _ rfl
  have m6_7 := made_ne M 6 7 rfl rfl (by decide)
  have hbw1 := M.below
  clear M
  generalize β 6 = p6 at *
  generalize β 7 = p7 at *
  go_wp2_with fail
  refine d_region (by kernel_rfl) (by kernel_rfl) ?_
  repeat
    first
      | (refine d_plain (by with_reducible rfl) ?_; apply Exists.intro; refine ⟨fun wq hc hq => ?_, ?_⟩)
      | (refine d_on (by with_reducible rfl) (by rfl) (by with_reducible rfl) ?_; apply Exists.intro; refine ⟨fun wq hc hq => ?_, ?_⟩)
      | (refine d_off (by with_reducible rfl) (by rfl) (by rfl) ?_)
      | (refine d_void (by with_reducible rfl) (by rfl) ?_)
    try any_goals
      (have q6 := p2_keep (cls hq) z6.1; have q7 := p2_keep (cls hq) z7.1; clear hc
       go_simp
       first
         | rfl
         | (go_at_call 112; with_reducible exact call_below hq (D1.out _))
         | (go_at_call 112; with_reducible exact call_below hq (D2.out _)))
    simp only [Act.put, List.setIfInBounds_toArray, List.set_cons_zero, List.set_cons_succ]
  refine d_nil ?_
  intro w2 hb2
  have hw2 := b_next (b_next HW.out hbw1) hb2
  have k6 := p2_keep hb2 z6.1; have k7 := p2_keep hb2 z7.1
  clear z6 z7
  go_wp2_with fail
  refine (C.out _).mono ?_; rintro e w3 ⟨rfl, h⟩
  replace hw2 := b_next hw2 h; clear h k6 k7
  have hcp : (0 : Int) ≤ (cn : Int) := by omega
  go_wp2_with fail
  refine (M1.out _).mono ?_; rintro e w4 ⟨rfl, h⟩
  subst h
  have e1 := edn.out; have e2 := eln.out
  have hdn : (0 : Int) ≤ (dn : Int) ∧ (dn : Int) ≤ 1000000000000 := by omega
  have hln : (0 : Int) ≤ (ln : Int) ∧ (ln : Int) ≤ 9000000000000 := by omega
  go_wp2_with fail
  refine (M2.out _).mono ?_; rintro e w5 ⟨rfl, h⟩
  subst h
  go_wp2_with fail
  all_goals (go_ret; exact ⟨retb (by rw [Bool.eq_iff_iff]; simp; omega), hw2⟩)
set_option maxHeartbeats 2000000 in
theorem far_n (ax ay bx by' qx qy d vx vy wx wy T L : Int) (w : World)
    (S1 : Hid (∀ w, Calls Try.prog 113 #[.agg #[.int .i64 bx, .int .i64 by'], .agg #[.int .i64 ax, .int .i64 ay]] w fun e w' => e = .returned (.agg #[.int .i64 vx, .int .i64 vy]) ∧ Below w.heap.size w w'))
    (S2 : Hid (∀ w, Calls Try.prog 113 #[.agg #[.int .i64 qx, .int .i64 qy], .agg #[.int .i64 ax, .int .i64 ay]] w fun e w' => e = .returned (.agg #[.int .i64 wx, .int .i64 wy]) ∧ Below w.heap.size w w'))
    (D1 : Hid (∀ w, Calls Try.prog 112 #[.agg #[.int .i64 vx, .int .i64 vy], .agg #[.int .i64 wx, .int .i64 wy]] w fun e w' => e = .returned (.int .i64 T) ∧ Below w.heap.size w w'))
    (D2 : Hid (∀ w, Calls Try.prog 112 #[.agg #[.int .i64 vx, .int .i64 vy], .agg #[.int .i64 vx, .int .i64 vy]] w fun e w' => e = .returned (.int .i64 L) ∧ Below w.heap.size w w'))
    (hd0 : 0 ≤ d) (hd1 : d ≤ 1000000) (cn dn ln h1 l1 h2 l2 : Nat) (hT : ¬ T ≤ 0) (hL : ¬ L ≤ T) (hLL : L ≤ 9000000000000) (hcn : cn ≤ 9000000000000) (hc0 : 0 < cn) (edn : Hid (d * d = dn)) (eln : Hid (L = ln))
    (C : Hid (∀ w, Calls Try.prog 136 #[.agg #[.int .i64 vx, .int .i64 vy], .agg #[.int .i64 wx, .int .i64 wy]] w fun e w' => e = .returned (.int .i64 (-(cn : Int))) ∧ Below w.heap.size w w'))
    (M1 : Hid (∀ w : World, Calls Try.prog 139 #[.int .u64 cn, .int .u64 cn] w fun e w' => e = .returned (.tuple #[.int .u64 h1, .int .u64 l1]) ∧ w = w'))
    (M2 : Hid (∀ w : World, Calls Try.prog 139 #[.int .u64 dn, .int .u64 ln] w fun e w' => e = .returned (.tuple #[.int .u64 h2, .int .u64 l2]) ∧ w = w')) :
    Calls Try.prog 114 #[.agg #[.int .i64 ax, .int .i64 ay], .agg #[.int .i64 bx, .int .i64 by'], .agg #[.int .i64 qx, .int .i64 qy], .int .i64 d] w fun e w' => e = .returned (.bool (decide (h2 < h1 ∨ h1 = h2 ∧ l2 < l1))) ∧ Below w.heap.size w w' := by
  have hdd : 0 ≤ d * d ∧ d * d ≤ 1000000 * 1000000 := ⟨Int.mul_nonneg hd0 hd0, Int.mul_le_mul hd1 hd1 hd0 (by omega)⟩
  go_enter Try.func114, Try.ntmps114
  have Ha := Lib.hid (p2_alloc (.cells #[.int .i64 qx, .int .i64 qy] 34) (p2_alloc (.cells #[.int .i64 bx, .int .i64 by'] 34) (p2_new w 34 ax ay)))
  have Hb := Lib.hid (p2_alloc (.cells #[.int .i64 qx, .int .i64 qy] 34) (p2_new1 w (.cells #[.int .i64 ax, .int .i64 ay] 34) 34 bx by'))
  have Hq := Lib.hid (p2_new2 w (.cells #[.int .i64 ax, .int .i64 ay] 34) (.cells #[.int .i64 bx, .int .i64 by'] 34) 34 qx qy)
  have HW := Lib.hid (b_alloc (b_alloc (b_alloc (Below.refl w.heap.size w) (.cells #[.int .i64 ax, .int .i64 ay] 34)) (.cells #[.int .i64 bx, .int .i64 by'] 34)) (.cells #[.int .i64 qx, .int .i64 qy] 34))
  go_wp2_with fail
  refine fresh_region (by kernel_rfl) (by kernel_rfl) ?_
  apply Fq.r
  · intro wq hc hq
    (have qa := p2_keep (cls hq) Ha.out; have qb := p2_keep (cls hq) Hb.out; have qq := p2_keep (cls hq) Hq.out; clear hc; go_simp; first | exact q2_value | exact q2_skip | (apply q2_enter; go_at_call 113; with_reducible exact S1.out _) | (apply q2_enter; go_at_call 113; with_reducible exact S2.out _))
  simp only [Act.put, List.setIfInBounds_toArray, List.set_cons_zero, List.set_cons_succ]
  apply Fq.r
  · intro wq hc hq
    (have qa := p2_keep (cls hq) Ha.out; have qb := p2_keep (cls hq) Hb.out; have qq := p2_keep (cls hq) Hq.out; clear hc; go_simp; first | exact q2_value | exact q2_skip | (apply q2_enter; go_at_call 113; with_reducible exact S1.out _) | (apply q2_enter; go_at_call 113; with_reducible exact S2.out _))
  simp only [Act.put, List.setIfInBounds_toArray, List.set_cons_zero, List.set_cons_succ]
  apply Fq.r
  · intro wq hc hq
    (have qa := p2_keep (cls hq) Ha.out; have qb := p2_keep (cls hq) Hb.out; have qq := p2_keep (cls hq) Hq.out; clear hc; go_simp; first | exact q2_value | exact q2_skip | (apply q2_enter; go_at_call 113; with_reducible exact S1.out _) | (apply q2_enter; go_at_call 113; with_reducible exact S2.out _))
  simp only [Act.put, List.setIfInBounds_toArray, List.set_cons_zero, List.set_cons_succ]
  apply Fq.r
  · intro wq hc hq
    (have qa := p2_keep (cls hq) Ha.out; have qb := p2_keep (cls hq) Hb.out; have qq := p2_keep (cls hq) Hq.out; clear hc; go_simp; first | exact q2_value | exact q2_skip | (apply q2_enter; go_at_call 113; with_reducible exact S1.out _) | (apply q2_enter; go_at_call 113; with_reducible exact S2.out _))
  simp only [Act.put, List.setIfInBounds_toArray, List.set_cons_zero, List.set_cons_succ]
  apply Fq.r
  · intro wq hc hq
    (have qa := p2_keep (cls hq) Ha.out; have qb := p2_keep (cls hq) Hb.out; have qq := p2_keep (cls hq) Hq.out; clear hc; go_simp; first | exact q2_value | exact q2_skip | (apply q2_enter; go_at_call 113; with_reducible exact S1.out _) | (apply q2_enter; go_at_call 113; with_reducible exact S2.out _))
  simp only [Act.put, List.setIfInBounds_toArray, List.set_cons_zero, List.set_cons_succ]
  apply Fq.r
  · intro wq hc hq
    (have qa := p2_keep (cls hq) Ha.out; have qb := p2_keep (cls hq) Hb.out; have qq := p2_keep (cls hq) Hq.out; clear hc; go_simp; first | exact q2_value | exact q2_skip | (apply q2_enter; go_at_call 113; with_reducible exact S1.out _) | (apply q2_enter; go_at_call 113; with_reducible exact S2.out _))
  simp only [Act.put, List.setIfInBounds_toArray, List.set_cons_zero, List.set_cons_succ]
  refine Fq.al 9 34 #[.int .i64 0, .int .i64 0] rfl (by simp) (fun wq => by go_simp) ?_
  refine Fq.al 10 34 #[.int .i64 0, .int .i64 0] rfl (by simp) (fun wq => by go_simp) ?_
  refine Fq.st 6 #[.int .i64 vx, .int .i64 vy] 9 34 #[.int .i64 0, .int .i64 0] rfl rfl (fun wq bq hq => ⟨((wq.setCell ⟨bq, 0, none⟩ (.int .i64 vx)).setCell ⟨bq, 1, none⟩ (.int .i64 vy)), ?_, blk_set (blk_set (hq) 0 (.int .i64 vx)) 1 (.int .i64 vy), only_set (only_set (only_refl _ _) 0 (.int .i64 vx)) 1 (.int .i64 vy)⟩) ?_
  · (have c0 : wq.cell? ⟨bq, 0, none⟩ = some (.int .i64 0) := blk_cell hq 0; have f0 := blk_free hq 0; have c1 : wq.cell? ⟨bq, 1, none⟩ = some (.int .i64 0) := blk_cell hq 1; have f1 := blk_free hq 1; simp only [Act.put, List.setIfInBounds_toArray, List.set_cons_zero, List.set_cons_succ]; clear hq; go_simp)
  refine Fq.st 7 #[.int .i64 wx, .int .i64 wy] 10 34 #[.int .i64 0, .int .i64 0] rfl rfl (fun wq bq hq => ⟨((wq.setCell ⟨bq, 0, none⟩ (.int .i64 wx)).setCell ⟨bq, 1, none⟩ (.int .i64 wy)), ?_, blk_set (blk_set (hq) 0 (.int .i64 wx)) 1 (.int .i64 wy), only_set (only_set (only_refl _ _) 0 (.int .i64 wx)) 1 (.int .i64 wy)⟩) ?_
  · (have c0 : wq.cell? ⟨bq, 0, none⟩ = some (.int .i64 0) := blk_cell hq 0; have f0 := blk_free hq 0; have c1 : wq.cell? ⟨bq, 1, none⟩ = some (.int .i64 0) := blk_cell hq 1; have f1 := blk_free hq 1; simp only [Act.put, List.setIfInBounds_toArray, List.set_cons_zero, List.set_cons_succ]; clear hq; go_simp)
  refine Fq.nil ⟨by kernel_rfl, fun β w1 M => ?_⟩
  simp only [List.reverse_cons, List.reverse_nil, List.nil_append, List.cons_append, putAl, Act.put, List.setIfInBounds_toArray, List.set_cons_zero, List.set_cons_succ, Nat.reduceAdd]
  have z6 := blk_b2 (M.block 8 6 _ _ _ _ rfl rfl)
  have l6 := M.fresh 6 _ _ _ rfl
  have z7 := blk_b2 (M.block 9 7 _ _ _ _ rfl rfl)
  have l7 := M.fresh 7 _ _ _ rfl
  have m6_7 := made_ne M 6 7 rfl rfl (by decide)
  have hbw1 := M.below
  clear M
  generalize β 6 = p6 at *
  generalize β 7 = p7 at *
  go_wp2_with fail
  refine d_region (by kernel_rfl) (by kernel_rfl) ?_
  repeat
    first
      | (refine d_plain (by with_reducible rfl) ?_; apply Exists.intro; refine ⟨fun wq hc hq => ?_, ?_⟩)
      | (refine d_on (by with_reducible rfl) (by rfl) (by with_reducible rfl) ?_; apply Exists.intro; refine ⟨fun wq hc hq => ?_, ?_⟩)
      | (refine d_off (by with_reducible rfl) (by rfl) (by rfl) ?_)
      | (refine d_void (by with_reducible rfl) (by rfl) ?_)
    try any_goals
      (have q6 := p2_keep (cls hq) z6.1; have q7 := p2_keep (cls hq) z7.1; clear hc
       go_simp
       first
         | rfl
         | (go_at_call 112; with_reducible exact call_below hq (D1.out _))
         | (go_at_call 112; with_reducible exact call_below hq (D2.out _)))
    simp only [Act.put, List.setIfInBounds_toArray, List.set_cons_zero, List.set_cons_succ]
  refine d_nil ?_
  intro w2 hb2
  have hw2 := b_next (b_next HW.out hbw1) hb2
  have k6 := p2_keep hb2 z6.1; have k7 := p2_keep hb2 z7.1
  clear z6 z7
  go_wp2_with fail
  refine (C.out _).mono ?_; rintro e w3 ⟨rfl, h⟩
  replace hw2 := b_next hw2 h; clear h k6 k7
  have hcp : (0 : Int) ≤ (cn : Int) := by omega
  go_wp2_with fail
  refine (M1.out _).mono ?_; rintro e w4 ⟨rfl, h⟩
  subst h
  have e1 := edn.out; have e2 := eln.out
  have hdn : (0 : Int) ≤ (dn : Int) ∧ (dn : Int) ≤ 1000000000000 := by omega
  have hln : (0 : Int) ≤ (ln : Int) ∧ (ln : Int) ≤ 9000000000000 := by omega
  go_wp2_with fail
  refine (M2.out _).mono ?_; rintro e w5 ⟨rfl, h⟩
  subst h
  go_wp2_with fail
  all_goals (go_ret; exact ⟨retb (by rw [Bool.eq_iff_iff]; simp; omega), hw2⟩)
/-- polygon.far's answer. -/
def farB (ax ay bx by' qx qy d : Int) : Bool :=
  if (bx - ax) * (qx - ax) + (by' - ay) * (qy - ay) ≤ 0 then decide (d * d < sqr ax ay qx qy)
  else if (bx - ax) * (bx - ax) + (by' - ay) * (by' - ay) ≤ (bx - ax) * (qx - ax) + (by' - ay) * (qy - ay) then decide (d * d < sqr bx by' qx qy)
  else decide (d * d * ((bx - ax) * (bx - ax) + (by' - ay) * (by' - ay)) < ((bx - ax) * (qy - ay) - (by' - ay) * (qx - ax)) * ((bx - ax) * (qy - ay) - (by' - ay) * (qx - ax)))
theorem hilo {m n : Nat} : (n / 18446744073709551616 < m / 18446744073709551616 ∨ m / 18446744073709551616 = n / 18446744073709551616 ∧ n % 18446744073709551616 < m % 18446744073709551616) ↔ n < m := by omega
theorem far_c (ax ay bx by' qx qy d : Int) (w : World) (ga : good ax ay) (gb : good bx by') (gq : good qx qy) (hd0 : 0 ≤ d) (hd1 : d ≤ 1000000) :
    Calls Try.prog 114 #[.agg #[.int .i64 ax, .int .i64 ay], .agg #[.int .i64 bx, .int .i64 by'], .agg #[.int .i64 qx, .int .i64 qy], .int .i64 d] w fun e w' => e = .returned (.bool (farB ax ay bx by' qx qy d)) ∧ Below w.heap.size w w' := by
  have S1 : Hid (∀ w, Calls Try.prog 113 #[.agg #[.int .i64 bx, .int .i64 by'], .agg #[.int .i64 ax, .int .i64 ay]] w fun e w' => e = .returned (.agg #[.int .i64 (bx - ax), .int .i64 (by' - ay)]) ∧ Below w.heap.size w w') := Lib.hid fun w => by
    have c := sub bx by' ax ay w
    rw [IntWalk.wrap64_in (bx - ax) (by omega), IntWalk.wrap64_in (by' - ay) (by omega)] at c; exact c
  have S2 : Hid (∀ w, Calls Try.prog 113 #[.agg #[.int .i64 qx, .int .i64 qy], .agg #[.int .i64 ax, .int .i64 ay]] w fun e w' => e = .returned (.agg #[.int .i64 (qx - ax), .int .i64 (qy - ay)]) ∧ Below w.heap.size w w') := Lib.hid fun w => by
    have c := sub qx qy ax ay w
    rw [IntWalk.wrap64_in (qx - ax) (by omega), IntWalk.wrap64_in (qy - ay) (by omega)] at c; exact c
  have bd : ∀ x y : Int, -2000000 ≤ x ∧ x ≤ 2000000 → -2000000 ≤ y ∧ y ≤ 2000000 → -4000000000000 ≤ x * y ∧ x * y ≤ 4000000000000 := fun x y h1 h2 => by
    have := mul_bd (x := x) (y := y) (M := 2000000) (N := 2000000) h1 h2; omega
  have D : ∀ x y u v : Int, -2000000 ≤ x ∧ x ≤ 2000000 → -2000000 ≤ y ∧ y ≤ 2000000 → -2000000 ≤ u ∧ u ≤ 2000000 → -2000000 ≤ v ∧ v ≤ 2000000 →
      (∀ w, Calls Try.prog 112 #[.agg #[.int .i64 x, .int .i64 y], .agg #[.int .i64 u, .int .i64 v]] w fun e w' => e = .returned (.int .i64 (x * u + y * v)) ∧ Below w.heap.size w w') ∧ (∀ w, Calls Try.prog 136 #[.agg #[.int .i64 x, .int .i64 y], .agg #[.int .i64 u, .int .i64 v]] w fun e w' => e = .returned (.int .i64 (x * v - y * u)) ∧ Below w.heap.size w w') := fun x y u v hx hy hu hv => by
    have b1 := bd x u hx hu; have b2 := bd y v hy hv; have b3 := bd x v hx hv; have b4 := bd y u hy hu
    constructor
    · intro w
      have c := dot x y u v w
      rw [IntWalk.wrap64_in (x * u) (by omega), IntWalk.wrap64_in (y * v) (by omega), IntWalk.wrap64_in _ (by omega)] at c; exact c
    · intro w
      have c := cross x y u v w
      rw [IntWalk.wrap64_in (x * v) (by omega), IntWalk.wrap64_in (y * u) (by omega), IntWalk.wrap64_in _ (by omega)] at c; exact c
  have D1 := Lib.hid (D (bx - ax) (by' - ay) (qx - ax) (qy - ay) (by omega) (by omega) (by omega) (by omega)).1
  have D2 := Lib.hid (D (bx - ax) (by' - ay) (bx - ax) (by' - ay) (by omega) (by omega) (by omega) (by omega)).1
  have CC := (D (bx - ax) (by' - ay) (qx - ax) (qy - ay) (by omega) (by omega) (by omega) (by omega)).2
  have c1 := bd (bx - ax) (qy - ay) (by omega) (by omega); have c2 := bd (by' - ay) (qx - ax) (by omega) (by omega)
  have c3 := bd (bx - ax) (bx - ax) (by omega) (by omega); have c4 := bd (by' - ay) (by' - ay) (by omega) (by omega)
  have s1 := sq_nonneg (bx - ax); have s2 := sq_nonneg (by' - ay)
  unfold farB
  by_cases hT : (bx - ax) * (qx - ax) + (by' - ay) * (qy - ay) ≤ 0
  · rw [if_pos hT]
    exact far_a ax ay bx by' qx qy d _ _ _ _ _ _ w S1 S2 D1 D2 hd0 hd1 _ hT (Lib.hid fun w => square ax ay qx qy w rfl ⟨by omega, by omega, by omega, by omega⟩)
  · rw [if_neg hT]
    by_cases hL : (bx - ax) * (bx - ax) + (by' - ay) * (by' - ay) ≤ (bx - ax) * (qx - ax) + (by' - ay) * (qy - ay)
    · rw [if_pos hL]
      exact far_b ax ay bx by' qx qy d _ _ _ _ _ _ w S1 S2 D1 D2 hd0 hd1 _ hT hL (Lib.hid fun w => square bx by' qx qy w rfl ⟨by omega, by omega, by omega, by omega⟩)
    · rw [if_neg hL]
      generalize hc : (bx - ax) * (qy - ay) - (by' - ay) * (qx - ax) = c at *
      generalize hl : (bx - ax) * (bx - ax) + (by' - ay) * (by' - ay) = l at *
      have hdd : 0 ≤ d * d ∧ d * d ≤ 1000000 * 1000000 := ⟨Int.mul_nonneg hd0 hd0, Int.mul_le_mul hd1 hd1 hd0 (by omega)⟩
      have M1 := Lib.hid fun w => Num.mul64 c.natAbs c.natAbs (by omega) (by omega) w
      have M2 := Lib.hid fun w => Num.mul64 (d * d).toNat l.toNat (by omega) (by omega) w
      have key : decide (d * d * l < c * c) = decide ((d * d).toNat * l.toNat / 18446744073709551616 < c.natAbs * c.natAbs / 18446744073709551616 ∨ c.natAbs * c.natAbs / 18446744073709551616 = (d * d).toNat * l.toNat / 18446744073709551616 ∧ (d * d).toNat * l.toNat % 18446744073709551616 < c.natAbs * c.natAbs % 18446744073709551616) := by
        rw [decide_eq_decide, hilo]
        have e1 : ((d * d).toNat * l.toNat : Nat) = (d * d * l).toNat := by rw [Int.toNat_mul hdd.1 (by omega)]
        have e2 : (c.natAbs * c.natAbs : Nat) = (c * c).toNat := by rw [← Int.natAbs_mul_self' c]; rfl
        have e3 : 0 ≤ d * d * l := Int.mul_nonneg hdd.1 (by omega)
        have e4 := sq_nonneg c
        rw [e1, e2]
        omega
      rw [key]
      rcases Int.le_total 0 c with h | h
      · rw [show c = ((c.natAbs : Nat) : Int) from by omega] at CC
        exact far_p ax ay bx by' qx qy d _ _ _ _ _ _ w S1 S2 D1 D2 hd0 hd1 c.natAbs (d * d).toNat l.toNat _ _ _ _ hT hL (by omega) (by omega) (Lib.hid (by omega)) (Lib.hid (by omega)) (Lib.hid CC) M1 M2
      · by_cases h0 : c = 0
        · rw [show c = ((c.natAbs : Nat) : Int) from by omega] at CC
          exact far_p ax ay bx by' qx qy d _ _ _ _ _ _ w S1 S2 D1 D2 hd0 hd1 c.natAbs (d * d).toNat l.toNat _ _ _ _ hT hL (by omega) (by omega) (Lib.hid (by omega)) (Lib.hid (by omega)) (Lib.hid CC) M1 M2
        · rw [show c = -((c.natAbs : Nat) : Int) from by omega] at CC
          exact far_n ax ay bx by' qx qy d _ _ _ _ _ _ w S1 S2 D1 D2 hd0 hd1 c.natAbs (d * d).toNat l.toNat _ _ _ _ hT hL (by omega) (by omega) (by omega) (Lib.hid (by omega)) (Lib.hid (by omega)) (Lib.hid CC) M1 M2
end Poly
end Go.Proofs.Ytlokkffpmjlihaa
